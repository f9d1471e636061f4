/-
  What puts of terms other than variables keep, norm keeps. Conditions: those written in each statement.
  symbc.Run in plain words; what an instruction that may be is; a block of a program that may be. Conditions: those written in each statement.
  Events in memory: a slice of them, each with a slice of arguments, apart from what may yet change. Conditions: those written in each statement.
  The machine that goes through a block, in memory: its pool, its registers, its events, its exit, its first error. Conditions: those written in each statement.
  What norm answers are numbers of Go's. Conditions: those written in each statement.
  Contracts of symbc's small methods: made, number. Conditions: those written in each statement.
-/
import Derived.Test.YtepagfkkjlbipaaGreatKao
import Derived.Test.YtepagfkkjlbipaaGreatKaj
import Derived.Test.YtepagfkkjlbipaaGreatNe
import Derived.Test.YtepagfkkjlbipaaGreatRd
import Derived.Test.YtepagfkkjlbipaaGreatKac
import Derived.Deep.DeepCutAuto
section
namespace Go.Proofs.YtepagfkkjlbipaaGreat
open Go.RowKit
set_option linter.unusedVariables false
set_option linter.unusedSimpArgs false
set_option maxRecDepth 100000
/-- Kept by puts of terms that are no variables. -/
def PutI (I : PS → Prop) : Prop := ∀ (q : PS) (t : TD), t.kind ≠ 1 → I q → I (putP q t)
section
variable {I : PS → Prop}
end
/-- Variables are the registers', or were brought before the n-th event that brings. -/
def VarsM (n : Nat) (p : PS) : Prop := ∀ t ∈ p.T, t.kind = 1 → t.n < 38 + 3 * (n : Int)
end Go.Proofs.YtepagfkkjlbipaaGreat
end
section
namespace Go.Proofs.YtepagfkkjlbipaaGreat
open Go.RowKit
set_option linter.unusedVariables false
set_option linter.unusedSimpArgs false
set_option maxRecDepth 100000
/-! ### instructions that may be -/
structure MayF (x : ID) : Prop where
 kind : 0 ≤ x.kind ∧ x.kind ≤ 6
 dst : 0 ≤ x.dst ∧ x.dst ≤ 10
 src : 0 ≤ x.src ∧ x.src ≤ 10
 off : -32768 ≤ x.off ∧ x.off ≤ 32767
 imm : -2147483648 ≤ x.imm ∧ x.imm ≤ 2147483647
 alu : x.kind = 0 → (0 ≤ x.op ∧ x.op ≤ 12) ∧ (x.width = 32 ∨ x.width = 64)
 size : x.kind = 1 ∨ x.kind = 2 → x.size = 1 ∨ x.size = 2 ∨ x.size = 4 ∨ x.size = 8
 cond : x.kind = 3 → (0 ≤ x.op ∧ x.op ≤ 10) ∧ x.width = 0
 host : x.kind = 5 → 0 ≤ x.imm ∧ x.imm ≤ 15
theorem may_facts {x : ID} (h : mayB x = true) : MayF x := by
 obtain ⟨k, op, wd, sz, br, dst, src, off, imm⟩ := x
 unfold mayB rngB bareM at h
 simp only [Bool.and_eq_true] at h
 obtain ⟨⟨⟨⟨h1, h2⟩, h3⟩, h4⟩, h5, h6⟩ := h
 rw [inB_iff] at h1 h2 h3 h4
 refine ⟨?_, h1, h2, h3, h4, ?_, ?_, ?_, ?_⟩
 ·dsimp only at h5 ⊢
  by_cases k0 : k = 0; · omega
  by_cases k1 : k = 1; · omega
  by_cases k2 : k = 2; · omega
  by_cases k3 : k = 3; · omega
  by_cases k4 : k = 4; · omega
  by_cases k5 : k = 5; · omega
  by_cases k6 : k = 6; · omega
  rw [if_neg k0, if_neg k1, if_neg k2, if_neg k3, if_neg k4, if_neg k5, if_neg k6] at h5
  cases h5
 ·rintro rfl
  dsimp only at h5 ⊢
  rw [if_pos rfl] at h5
  simp only [Bool.and_eq_true, Bool.or_eq_true, beq_iff_eq] at h5
  rw [inB_iff] at h5
  exact ⟨h5.1.1.1, h5.1.1.2⟩
 ·intro hk
  dsimp only at h5 hk ⊢
  unfold szB at h5
  rcases hk with rfl | rfl
  ·rw [if_neg (by decide), if_pos rfl] at h5
   simp only [Bool.and_eq_true, Bool.or_eq_true, beq_iff_eq] at h5
   omega
  ·rw [if_neg (by decide), if_neg (by decide), if_pos rfl] at h5
   simp only [Bool.or_eq_true, beq_iff_eq] at h5
   omega
 ·rintro rfl
  dsimp only at h5 ⊢
  rw [if_neg (by decide), if_neg (by decide), if_neg (by decide), if_pos rfl, inB_iff] at h5
  refine ⟨h5, ?_⟩
  unfold bareR immR kz at h6
  dsimp only at h6
  rw [if_neg (by decide), if_neg (by decide), if_neg (by decide), if_pos rfl] at h6
  cases br <;> simp [ID.cells, eqL, eqV] at h6 <;> omega
 ·rintro rfl
  dsimp only at h5 ⊢
  rw [if_neg (by decide), if_neg (by decide), if_neg (by decide), if_neg (by decide), if_neg (by decide), if_pos rfl, inB_iff] at h5
  exact h5
/-! ### a block of a program that may be -/
structure BkF (l : List ID) (x : BD) (i : Nat) (y : ID) : Prop where
 lo : 0 ≤ x.frm
 lt : x.frm < x.upto
 le : x.upto ≤ (l.length : Int)
 last : x.upto = (i : Int) + 1
 at_ : l[i]? = some y
 one : y.kind ≠ 6 → 1 ≤ x.next.length
 two : y.kind = 3 → x.next.length = 2
theorem blk_facts {l : List ID} (h1 : 0 < l.length) (hn : l.length ≤ 64) (hok : ∀ (j : Nat) (x : ID), l[j]? = some x → okAt l.length j x = true) {x : BD} (hx : x ∈ blkL l) : ∃ i y, BkF l x i y := by
 obtain ⟨b, p, hp, _, rfl⟩ := mem_blkL hx
 have I := blk_inv (begB_zero l) l.length h1
 have hlt := I.lt b p hp
 obtain ⟨f, t⟩ := p
 dsimp only at hlt
 obtain ⟨i, rfl⟩ : ∃ i : Nat, t = (i : Int) + 1 := ⟨(t - 1).toNat, by omega⟩
 have hi : i < l.length := by omega
 have hy : l[i]? = some l[i] := List.getElem?_eq_getElem hi
 have hm := hok i _ hy
 unfold okAt at hm
 have hm2 := may_facts (x := l[i]) (by simp only [Bool.and_eq_true] at hm; exact hm.1)
 have ht : l[i].kind = 3 ∨ l[i].kind = 4 → tgtB i l[i] = true := by
  intro hk
  unfold tgtB
  simp only [Bool.and_eq_true, Bool.or_eq_true, beq_iff_eq]
  rw [inB_iff, inB_iff]
  have := hm2.off
  omega
 refine ⟨i, l[i], ?_⟩
 rw [bkAt_eq hy]
 refine ⟨by show 0 ≤ f; omega, by show f < (i : Int) + 1; omega, by show (i : Int) + 1 ≤ _; omega, rfl, hy, fun h6 => ?_, fun h3 => ?_⟩
 ·show 1 ≤ (nextOf (begB l) b i l[i]).length
  unfold nextOf
  rw [List.length_append]
  by_cases h4 : l[i].kind = 4
  ·rw [if_pos (ht (.inr h4))]; simp
  ·rw [if_neg (by omega : ¬ (l[i].kind = 4 ∨ l[i].kind = 6))]; simp
 ·show (nextOf (begB l) b i l[i]).length = 2
  unfold nextOf
  rw [List.length_append, if_pos (ht (.inl h3)), if_neg (by omega : ¬ (l[i].kind = 4 ∨ l[i].kind = 6))]
  rfl
/-! ### Run -/
def zeroRg : List Int := List.replicate 11 0
def zeroEx : ExD := ⟨0, 0, 0, 0⟩
structure RunD where
 p : PS
 regs : List Int
 evs : List EvD
 ex : ExD
 err : Int
def regsB (p : PS) (regs : List Int) : Bool := regs.all fun r => decide (0 ≤ r) && decide (r < (p.T.length : Int))
def askB (p : PS) (l : List ID) (block : Int) (regs : List Int) : Bool := decide (0 ≤ block) && (decide (block < ((blkL l).length : Int)) && regsB p regs)
def noBlk : BD := ⟨0, 0, []⟩
def noIns : ID := ⟨0, 0, 0, 0, false, 0, 0, 0, 0⟩
def blkAt (l : List ID) (block : Int) : BD := (blkL l).getD block.toNat noBlk
def insOf (l : List ID) (x : BD) : List ID := (l.drop x.frm.toNat).take (x.upto - x.frm).toNat
noncomputable def goV (p : PS) (l : List ID) (block : Int) (regs : List Int) : SM := (SM.mk p regs [] 0).go (insOf l (blkAt l block))
noncomputable def runV (p : PS) (c : Int) (l : List ID) (block : Int) (regs : List Int) : RunD :=
 if (chkP c l).2 ≠ 0 then ⟨p, zeroRg, [], zeroEx, (chkP c l).2⟩
 else if askB p l block regs = false then ⟨p, zeroRg, [], zeroEx, 2⟩
 else
  let m := goV p l block regs
  if m.err ≠ 0 then ⟨m.p, zeroRg, [], zeroEx, m.err⟩
  else
   let q := m.ends (l.getD ((blkAt l block).upto - 1).toNat noIns) (blkAt l block).next
   if q.1.err ≠ 0 then ⟨q.1.p, zeroRg, [], zeroEx, q.1.err⟩ else ⟨q.1.p, q.1.regs, q.1.evs, q.2, 0⟩
/-! ### what a step leaves -/
theorem go_app (m : SM) : ∀ (a b : List ID), m.go (a ++ b) = (m.go a).go b := by
 intro a
 induction a generalizing m with
 | nil => intro b; rfl
 | cons x r ih => intro b; exact ih (m.step x) b
theorem go_take {m : SM} {l : List ID} {k : Nat} {x : ID} (h : l[k]? = some x) : m.go (l.take (k + 1)) = (m.go (l.take k)).step x := by
 rw [List.take_add_one, h, go_app]
 rfl
theorem second_evl (m : SM) (x : ID) : (m.second x).1.evs = m.evs := by
 unfold SM.second
 split
 ·rfl
 ·split <;> rfl
theorem step_evs (m : SM) (x : ID) : (m.step x).evs.length ≤ m.evs.length + 1 := by
 unfold SM.step
 split
 ·omega
 split
 ·show ((m.second x).1).evs.length ≤ _
  rw [second_evl]; omega
 split
 ·show (m.evs ++ [_]).length ≤ _
  simp
 split
 ·show (m.evs ++ [_]).length ≤ _
  simp
 split
 ·show (m.evs ++ [_]).length ≤ _
  simp
 ·omega
theorem go_evs (m : SM) : ∀ (l : List ID), (m.go l).evs.length ≤ m.evs.length + l.length := by
 intro l
 induction l generalizing m with
 | nil => exact Nat.le_refl _
 | cons x r ih =>
  have h1 := ih (m.step x)
  have h2 := step_evs m x
  show ((m.step x).go r).evs.length ≤ _
  simp
  omega
theorem step_err {m : SM} (h : m.err ≠ 0) (x : ID) : m.step x = m := by unfold SM.step; rw [if_pos h]
end Go.Proofs.YtepagfkkjlbipaaGreat
end
section
namespace Go.Proofs.YtepagfkkjlbipaaGreat
open Go.RowKit
set_option linter.unusedVariables false
set_option linter.unusedSimpArgs false
set_option maxRecDepth 100000
def EvD.wf (x : EvD) : Prop := I8 x.kind ∧ I8 x.size ∧ I64 x.a ∧ I64 x.v ∧ I64 x.num
def evC (p : EvD × Value) : List Value := [.int .i8 p.1.kind, .int .i8 p.1.size, .int .i64 p.1.a, .int .i64 p.1.v, .int .i64 p.1.num, p.2]
/-- Events that a slice reads as, outside some blocks. -/
def EvsAt (w : World) (F : Nat → Prop) (s : Value) (l : List EvD) : Prop := ∃ A c, ∃ q : List (EvD × Value), s = .slice A l.length c ∧ l.length ≤ c ∧ q.map (·.1) = l ∧ ReadsF w F 6 A l.length (q.flatMap evC) ∧ ∀ p ∈ q, p.1.wf ∧ NumsF w F p.2 p.1.args
section
variable {w w' : World} {F G H : Nat → Prop} {n : Nat} {A : Option Addr} {s : Value} {l : List EvD}
theorem EvsAt.chg (h : EvsAt w F s l) (hc : Chg H w w') (hH : ∀ b, H b → F b ∨ w.heap.size ≤ b) (hG : ∀ b, G b → F b ∨ w.heap.size ≤ b) : EvsAt w' G s l := by
 obtain ⟨A, c, q, h1, h2, h3, h4, h5⟩ := h
 exact ⟨A, c, q, h1, h2, h3, h4.chg hc hH hG, fun p hp => ⟨(h5 p hp).1, (h5 p hp).2.chg hc hH hG⟩⟩
theorem EvsAt.form (h : EvsAt w F s l) : ∃ A c, s = .slice A l.length c ∧ l.length ≤ c := by
 obtain ⟨A, c, q, h1, h2, _⟩ := h
 exact ⟨A, c, h1, h2⟩
theorem EvsAt.at_ {m c k : Nat} (h : EvsAt w F (.slice A m c) l) (hk : k < m) : ∃ ad x v, A = some ad ∧ ad.block < w.heap.size ∧ l[k]? = some x ∧ x.wf ∧ NumsF w F v x.args ∧ ∀ j u, (evC (x, v))[j]? = some u → w.cell? ((ad.add (k * 6)).add j) = some u := by
 obtain ⟨A', c', q, h1, h2, rfl, h4, h5⟩ := h
 injection h1 with h0 h1 hc
 subst h0 h1 hc
 obtain ⟨ad, e, hb, _, hc⟩ := h4.2 (by omega)
 have hkq : k < q.length := by simpa using hk
 have hx : q[k]? = some q[k] := List.getElem?_eq_getElem hkq
 obtain ⟨h6, h7⟩ := h5 _ (List.getElem_mem hkq)
 refine ⟨ad, q[k].1, q[k].2, e, hb, by rw [List.getElem?_map, hx]; rfl, h6, h7, fun j u hu => ?_⟩
 rw [add_of_add]
 exact hc _ u (flat_at evC 6 q (fun z hz => rfl) k j _ u hx hu)
theorem EvsAt.nil : EvsAt w F (.slice none 0 0) [] := ⟨none, 0, [], rfl, Nat.le_refl _, rfl, ReadsF.none_, by simp⟩
theorem ev_len (q : List (EvD × Value)) : (q.flatMap evC).length = q.length * 6 := by
 induction q with
 | nil => rfl
 | cons x t ih => rw [List.flatMap_cons, List.length_append, ih]; simp [evC]; omega
end
end Go.Proofs.YtepagfkkjlbipaaGreat
end
section
namespace Go.Proofs.YtepagfkkjlbipaaGreat
open Go.RowKit
set_option linter.unusedVariables false
set_option linter.unusedSimpArgs false
set_option maxRecDepth 100000
/-- The machine's cells. -/
def mC (g : Nat) (regs : List Int) (es : Value) (ex : ExD) (er : Int) : List Value :=
 .pointer (some ⟨g, 0, none⟩) :: (regs.map (Value.int .i64) ++ [es, .int .i8 ex.kind, .int .i64 ex.v, .int .i64 ex.tgt, .int .i64 ex.els, .int .i64 er])
section
variable {g : Nat} {regs : List Int} {es es' : Value} {ex ex' : ExD} {er er' : Int}
theorem mC_reg (hl : regs.length = 11) {d : Nat} (hd : d < 11) : (mC g regs es ex er)[1 + d]? = some (.int .i64 (regs.getD d 0)) := by
 unfold mC
 rw [Nat.add_comm, List.getElem?_cons_succ, List.getElem?_append_left (by simp; omega), List.getElem?_map, List.getD_eq_getElem?_getD, List.getElem?_eq_getElem (by omega)]
 rfl
theorem mC_tail (hl : regs.length = 11) (k : Nat) : (mC g regs es ex er)[12 + k]? = ([es, .int .i8 ex.kind, .int .i64 ex.v, .int .i64 ex.tgt, .int .i64 ex.els, .int .i64 er] : List Value)[k]? := by
 unfold mC
 rw [show 12 + k = (11 + k) + 1 by omega, List.getElem?_cons_succ, List.getElem?_append_right (by simp; omega)]
 congr 1
 simp
 omega
theorem mC_len (hl : regs.length = 11) : (mC g regs es ex er).length = 18 := by unfold mC; simp; omega
theorem mC_setReg (hl : regs.length = 11) {d : Nat} (hd : d < 11) (n : Int) : (mC g regs es ex er).set (1 + d) (.int .i64 n) = mC g (regs.set d n) es ex er := by
 unfold mC
 rw [Nat.add_comm, List.set_cons_succ, List.set_append_left _ _ (by simp; omega), List.map_set]
theorem mC_setEs (hl : regs.length = 11) : (mC g regs es ex er).set 12 es' = mC g regs es' ex er := by
 unfold mC
 rw [show 12 = 11 + 1 by omega, List.set_cons_succ, List.set_append_right _ _ (by simp; omega)]
 simp [hl]
theorem mC_setErr (hl : regs.length = 11) : (mC g regs es ex er).set 17 (.int .i64 er') = mC g regs es ex er' := by
 unfold mC
 rw [show 17 = 16 + 1 by omega, List.set_cons_succ, List.set_append_right _ _ (by simp; omega)]
 simp [hl]
theorem mC_over (hl : regs.length = 11) : overC (mC g regs es ex er) 13 [.int .i8 ex'.kind, .int .i64 ex'.v, .int .i64 ex'.tgt, .int .i64 ex'.els] = mC g regs es ex' er := by
 unfold overC mC
 match regs, hl with
 | [a0, a1, a2, a3, a4, a5, a6, a7, a8, a9, a10], _ => rfl
end
/-- What the events' blocks lie apart from. -/
def Up (G : Nat → Prop) (b k : Nat) : Prop := G k ∨ k ≤ b
/-- The machine lies at block b; F: its pool's blocks, G: all that is its own. -/
structure MA (base g b : Nat) (F G : Nat → Prop) (m : SM) (ex : ExD) (w : World) : Prop where
 pool : PoolAt w base F g m.p
 box : ∃ es, ∃ q : List (EvD × Value), Blk w b 114 (mC g m.regs es ex m.err).toArray ∧ w.ownsRow (b + 1) 72 6 es m.evs.length (q.flatMap evC) ∧ q.map (·.1) = m.evs ∧ (∀ p ∈ q, p.1.wf ∧ NumsF w (Up G b) p.2 p.1.args) ∧ ∀ k, es.ownBlock = some k → G k ∧ ¬ F k ∧ k ≠ b
 nb : ¬ F b ∧ G b
 sub : ∀ k, F k → G k
 low : ∀ k, G k → base ≤ k ∧ k < w.heap.size
 len : m.regs.length = 11
 rng : ∀ r ∈ m.regs, I64 r
 few : m.evs.length ≤ 64
/-- .. and has gone on, from a world. -/
structure MG (base g b : Nat) (G : Nat → Prop) (w : World) (F' G' : Nat → Prop) (m : SM) (ex : ExD) (w' : World) : Prop where
 at_ : MA base g b F' G' m ex w'
 chg : Chg G w w'
 new : ∀ k, G' k → G k ∨ w.heap.size ≤ k
section
variable {base g b : Nat} {F G F1 G1 F2 G2 : Nat → Prop} {m m1 m2 : SM} {ex ex1 ex2 : ExD} {w w1 w2 : World} {p1 : PS}
theorem MG.refl (h : MA base g b F G m ex w) : MG base g b G w F G m ex w := ⟨h, Chg.refl _ _, fun k q => .inl q⟩
theorem MG.trans (h : MG base g b G w F1 G1 m1 ex1 w1) (k : MG base g b G1 w1 F2 G2 m2 ex2 w2) : MG base g b G w F2 G2 m2 ex2 w2 :=
 ⟨k.at_, h.chg.trans k.chg h.new, fun b q => (k.new b q).elim (h.new b) (fun e => .inr (Nat.le_trans h.chg.size e))⟩
theorem MG.size (h : MG base g b G w F1 G1 m1 ex1 w1) : w.heap.size ≤ w1.heap.size := h.chg.size
/-- A variable of the caller's lies on. -/
theorem MG.blk (h : MG base g b G w F1 G1 m1 ex1 w1) {c : Nat} {t : TypeId} {cs : Array Value} (hb : Blk w c t cs) (hg : ¬ G c) : Blk w1 c t cs ∧ ¬ G1 c :=
 ⟨h.chg.blk hb hg, fun q => (h.new c q).elim hg (fun e => by have := hb.lt; omega)⟩
/-- Behind what lets all lie. -/
theorem MA.below (h : MA base g b F G m ex w) (hb : Below w.heap.size w w1) : MA base g b F G m ex w1 := by
 obtain ⟨es, q, h1, h2, h3, h4, h5⟩ := h.box
 exact ⟨h.pool.below hb, ⟨es, q, h1.below hb h1.lt, (RowL.of_own h2).below hb |> fun _ => own_block h2 (fun k hk => hb.block k (own_ge h2 k hk).2), h3, fun p hp => ⟨(h4 p hp).1, (h4 p hp).2.chg (.of_below hb) (fun k hk => .inr hk) (fun k hk => .inl hk)⟩, h5⟩, h.nb, h.sub, fun k hk => ⟨(h.low k hk).1, Nat.lt_of_lt_of_le (h.low k hk).2 hb.size⟩, h.len, h.rng, h.few⟩
theorem MG.step (h : MG base g b G w F1 G1 m1 ex1 w1) (hb : Below w1.heap.size w1 w2) : MG base g b G w F1 G1 m1 ex1 w2 := h.trans ⟨h.at_.below hb, Chg.of_below hb |>.mono (fun _ q => .inr q), fun k q => .inl q⟩
theorem MG.of_below (h : MA base g b F G m ex w) (hb : Below w.heap.size w w1) : MG base g b G w F G m ex w1 := (MG.refl h).step hb
/-- The pool has gone on. -/
theorem MA.pg (h : MA base g b F G m ex w) (k : PG base g F w F1 p1 w1) : MG base g b G w F1 (fun c => G c ∨ F1 c) { m with p := p1 } ex w1 := by
 obtain ⟨es, q, h1, h2, h3, h4, h5⟩ := h.box
 have hb := k.blk h1 h.nb.1
 have hc : Chg G w w1 := k.chg.mono (fun c q => .inl (h.sub c q))
 refine ⟨⟨k.pool, ⟨es, q, hb.1, k.chg.own h2 (fun c hc => (h5 c hc).2.1), h3, fun p hp => ⟨(h4 p hp).1, (h4 p hp).2.chg hc (fun c q => .inl (.inl q)) (fun c q => q.elim (fun q => q.elim (fun q => .inl (.inl q)) (fun q => (k.new c q).elim (fun q => .inl (.inl (h.sub c q))) .inr)) (fun q => .inl (.inr q)))⟩, fun c hc => ⟨.inl (h5 c hc).1, fun q => (k.new c q).elim (h5 c hc).2.1 (fun e => by have := (own_ge h2 c hc).2; omega), (h5 c hc).2.2⟩⟩, ⟨hb.2, .inl h.nb.2⟩, fun c q => .inr q, fun c q => ?_, h.len, h.rng, h.few⟩, hc, fun c q => q.elim .inl (fun q => (k.new c q).elim (fun q => .inl (h.sub c q)) .inr)⟩
 rcases q with q | q
 ·have := h.low c q
  have := k.chg.size
  omega
 ·exact k.pool.fb c q
theorem chg_setCell {c : Addr} (hc : c.block = b) (u : Value) (hG : G b) : Chg G w (w.setCell c u) :=
 ⟨rfl, rfl, rfl, by simp, fun k hk hn => Below.heap_setCell w c u k (fun e => hn (by rw [e, hc]; exact hG))⟩
/-- A cell of the machine's is written. -/
theorem MA.cell (h : MA base g b F G m ex w) {i : Nat} {u : Value} {m1 : SM} {ex1 : ExD} (hp : m1.p = m.p) (he : m1.evs = m.evs) (hl : m1.regs.length = 11) (hr : ∀ r ∈ m1.regs, I64 r)
  (hs : ∀ es, (mC g m.regs es ex m.err).set i u = mC g m1.regs es ex1 m1.err) : MG base g b G w F G m1 ex1 (w.setCell ⟨b, i, none⟩ u) := by
 obtain ⟨es, q, h1, h2, h3, h4, h5⟩ := h.box
 have hc : Chg G w (w.setCell ⟨b, i, none⟩ u) := chg_setCell rfl u h.nb.2
 have hcF : Chg (fun k => k = b) w (w.setCell ⟨b, i, none⟩ u) := chg_setCell (b := b) rfl u rfl
 have hB := h1.set_ i u
 rw [List.setIfInBounds_toArray, hs] at hB
 refine ⟨⟨?_, ⟨es, q, hB, ?_, by rw [he]; exact h3, fun p hp => ⟨(h4 p hp).1, (h4 p hp).2.chg hc (fun c q => .inl (.inl q)) (fun c q => .inl q)⟩, h5⟩, h.nb, h.sub, fun k hk => ⟨(h.low k hk).1, Nat.lt_of_lt_of_le (h.low k hk).2 hc.size⟩, hl, hr, by rw [he]; exact h.few⟩, hc, fun k q => .inl q⟩
 ·rw [hp]; exact h.pool.chg hcF (fun c q e => h.nb.1 (e ▸ q))
 ·rw [he]; exact hcF.own h2 (fun c hc e => (h5 c hc).2.2 e)
theorem MA.setErr (h : MA base g b F G m ex w) (er : Int) : MG base g b G w F G { m with err := er } ex (w.setCell ⟨b, 17, none⟩ (.int .i64 er)) :=
 h.cell rfl rfl h.len h.rng (fun es => mC_setErr h.len)
theorem MA.setReg (h : MA base g b F G m ex w) {d : Nat} (hd : d < 11) {n : Int} (hn : I64 n) : MG base g b G w F G { m with regs := m.regs.set d n } ex (w.setCell ⟨b, 1 + d, none⟩ (.int .i64 n)) :=
 h.cell rfl rfl (by rw [List.length_set]; exact h.len) (fun r hr => (List.mem_or_eq_of_mem_set hr).elim (h.rng r) (fun e => e ▸ hn)) (fun es => mC_setReg h.len hd n)
/-- What the machine's cells are. -/
theorem MA.cp (h : MA base g b F G m ex w) : w.cell? ⟨b, 0, none⟩ = some (.pointer (some ⟨g, 0, none⟩)) := by
 obtain ⟨es, q, h1, _⟩ := h.box
 rw [h1.cell 0]
 rfl
theorem MA.creg (h : MA base g b F G m ex w) {d : Nat} (hd : d < 11) : w.cell? ⟨b, 1 + d, none⟩ = some (.int .i64 (m.regs.getD d 0)) := by
 obtain ⟨es, q, h1, _⟩ := h.box
 rw [h1.cell (1 + d), List.getElem?_toArray]
 exact mC_reg h.len hd
theorem MA.cerr (h : MA base g b F G m ex w) : w.cell? ⟨b, 17, none⟩ = some (.int .i64 m.err) := by
 obtain ⟨es, q, h1, _⟩ := h.box
 rw [h1.cell 17, List.getElem?_toArray]
 exact mC_tail h.len 5
theorem MA.ces (h : MA base g b F G m ex w) : ∃ es, ∃ q : List (EvD × Value), w.cell? ⟨b, 12, none⟩ = some es ∧ Blk w b 114 (mC g m.regs es ex m.err).toArray ∧ w.ownsRow (b + 1) 72 6 es m.evs.length (q.flatMap evC) ∧ q.map (·.1) = m.evs ∧ (∀ p ∈ q, p.1.wf ∧ NumsF w (Up G b) p.2 p.1.args) ∧ ∀ k, es.ownBlock = some k → G k ∧ ¬ F k ∧ k ≠ b := by
 obtain ⟨es, q, h1, h2⟩ := h.box
 refine ⟨es, q, ?_, h1, h2⟩
 rw [h1.cell 12, List.getElem?_toArray]
 exact mC_tail h.len 0
theorem MA.lt (h : MA base g b F G m ex w) : b < w.heap.size := (h.low b h.nb.2).2
theorem getD_mem {l : List Int} {d : Nat} (h : d < l.length) : l.getD d 0 ∈ l := by
 rw [List.getD_eq_getElem?_getD, List.getElem?_eq_getElem h]
 exact List.getElem_mem h
theorem MA.reg_i64 (h : MA base g b F G m ex w) {d : Nat} (hd : d < 11) : I64 (m.regs.getD d 0) := h.rng _ (getD_mem (by rw [h.len]; exact hd))
/-- What a method of the machine's answers. -/
def MRet (base g b : Nat) (G : Nat → Prop) (ex : ExD) (w : World) (r : SM × Int) (e : Ending) (w' : World) : Prop := e = .returned (.int .i64 r.2) ∧ I64 r.2 ∧ ∃ F' G', MG base g b G w F' G' r.1 ex w'
theorem MRet.from {r : SM × Int} {e : Ending} (h : MG base g b G w F1 G1 m1 ex1 w1) (k : MRet base g b G1 ex w1 r e w2) : MRet base g b G ex w r e w2 := by
 obtain ⟨h1, hi, F2, G2, h2⟩ := k
 exact ⟨h1, hi, F2, G2, h.trans h2⟩
end
end Go.Proofs.YtepagfkkjlbipaaGreat
end
section
namespace Go.Proofs.YtepagfkkjlbipaaGreat
open Go.RowKit
set_option linter.unusedVariables false
set_option linter.unusedSimpArgs false
set_option maxRecDepth 100000
theorem i64_zero : I64 0 := by unfold I64; omega
/-- A condition's number is one of Go's. -/
theorem cond_i64 : ∀ (f : Nat) {p : PS} (hw : WfP p) (hr : ∀ t ∈ p.T, t.wf) {cc x a b : Int} (ha : I64 a) (hb : I64 b) {q : RS} (h : condF f p cc x a b = some q), I64 q.2.1
 | 0, _, _, _, _, _, _, _, _, _, _, h => by cases h
 | f + 1, p, hw, hr, cc, x, a, b, ha, hb, q, h => by
  rw [condF_succ] at h
  split at h
  ·injection h with h; subst h; unfold I64; dsimp only; omega
  split at h
  ·injection h with h; subst h; unfold I64; dsimp only; omega
  split at h
  ·have hi := both_i64 hw hr ha hb x
   have hw2 := both_wf hw hr ha hb x
   unfold condL at h
   dsimp only at h
   split at h
   ·injection h with h; subst h; exact putN_i64 hw2.1 _
   split at h
   ·injection h with h; subst h; exact putN_i64 hw2.1 _
   split at h
   ·exact cond_i64 f hw2.1 hw2.2 hi.2 hi.1 h
   split at h
   ·injection h with h; subst h; exact putN_i64 hw2.1 _
   ·injection h with h; subst h; exact putN_i64 hw2.1 _
  ·injection h with h; subst h; unfold I64; dsimp only; omega
theorem zext_num : ∀ (f : Nat) {p : PS} (hw : WfP p) (hr : ∀ t ∈ p.T, t.wf) {x a : Int} {r : RS}, I64 a → zextF f p x a = some r → I64 r.2.1
 | 0, _, _, _, _, _, _, _, h => by cases h
 | f + 1, p, hw, hr, x, a, r, ha, h => by
  rw [zextF_succ] at h
  split at h
  ·injection h with h; subst h; exact ha
  split at h
  ·injection h with h; subst h; exact putN_i64 hw _
  split at h
  ·injection h with h; subst h; exact ha
  split at h
  ·exact zext_num f hw hr (atP_wf hr a).2.2.2.2.1 h
  ·injection h with h; subst h; exact putN_i64 hw _
theorem zextV_num {p : PS} (hw : WfP p) (hr : ∀ t ∈ p.T, t.wf) (x : Int) {a : Int} (ha : I64 a) : I64 (zextV p x a).2.1 := by
 have h := zextV_some hw x a
 unfold zextO at h
 split at h
 ·injection h with h; rw [← h]; exact i64_zero
 ·exact zext_num _ hw hr ha h
theorem bind_num {r s : RS} {k : PS → Int → Option RS} (hk : r.2.2 = 0 → ∀ s, k r.1 r.2.1 = some s → I64 s.2.1) (hs : bindR r k = some s) : I64 s.2.1 := by
 unfold bindR at hs
 split at hs
 ·rename_i h0; exact hk h0 s hs
 ·injection hs with hs; subst hs; exact i64_zero
theorem op_num : ∀ (f : Nat) {p : PS} (hw : WfP p) (hr : ∀ t ∈ p.T, t.wf) {op x a b : Int} {r : RS}, opF f p op x a b = some r → I64 r.2.1
 | 0, _, _, _, _, _, _, _, _, h => by cases h
 | f + 1, p, hw, hr, op, x, a, b, r, h => by
  rw [opF_succ] at h
  split at h
  ·injection h with h; subst h; exact i64_zero
  rename_i hab
  have hab : hasB p.T a = true ∧ hasB p.T b = true := by simpa using hab
  split at h
  ·injection h with h; subst h; exact i64_zero
  have ha := has_i64 hw hab.1
  have hb := has_i64 hw hab.2
  have hi := both_i64 hw hr ha hb x
  have hw2 := both_wf hw hr ha hb x
  split at h
  ·generalize bothP p x a b = z at h hw2 hi
   obtain ⟨p1, a1, b1, e1⟩ := z
   dsimp only at h hw2 hi
   have hc : ∀ {n : Int}, U64 n → Good p1 (putR p1 (constT n)) := fun hn => Good.put hw2.1 hw2.2 (constT_wf hn)
   unfold opL at h
   dsimp only at h
   split at h
   ·injection h with h; subst h; exact putN_i64 hw2.1 _
   split at h
   ·exact bind_num (fun _ s hs => op_num f (hc zero_u64).wf (hc zero_u64).rng hs) h
   split at h
   ·exact zext_num f hw2.1 hw2.2 hi.2 h
   split at h
   ·have hu : U64 (cutV x (IntKind.u64.wrap (-(atP p1.T b1).n))) := cutV_u64 (wrap_u64 _)
    exact bind_num (fun _ s hs => op_num f (hc hu).wf (hc hu).rng hs) h
   split at h
   ·exact op_num f hw2.1 hw2.2 h
   split at h
   ·have hu : U64 (cutV x (IntKind.u64.wrap ((atP p1.T (atP p1.T a1).b).n + (atP p1.T b1).n))) := cutV_u64 (wrap_u64 _)
    exact bind_num (fun _ s hs => op_num f (hc hu).wf (hc hu).rng hs) h
   split at h
   ·exact zext_num f hw2.1 hw2.2 hi.1 h
   split at h
   ·injection h with h; subst h; exact putN_i64 hw2.1 _
   split at h
   ·injection h with h; subst h; exact putN_i64 hw2.1 _
   split at h
   ·exact zext_num f hw2.1 hw2.2 hi.1 h
   ·injection h with h; subst h; exact putN_i64 hw2.1 _
  ·injection h with h; subst h; exact i64_zero
theorem opV_num {p : PS} (hw : WfP p) (hr : ∀ t ∈ p.T, t.wf) (op x a b : Int) : I64 (opV p op x a b).2.1 := by
 obtain ⟨f, h⟩ := opV_some hw hr op x a b
 exact op_num f hw hr h
theorem condV_num {p : PS} (hw : WfP p) (hr : ∀ t ∈ p.T, t.wf) (cc x : Int) {a b : Int} (ha : I64 a) (hb : I64 b) : I64 (condV p cc x a b).2.1 := cond_i64 2 hw hr ha hb (condV_some p cc x a b)
end Go.Proofs.YtepagfkkjlbipaaGreat
end
section
namespace Go.Proofs.YtepagfkkjlbipaaGreat
open Go.RowKit
set_option linter.unusedVariables false
set_option linter.unusedSimpArgs false
set_option maxRecDepth 100000
section
variable {base g b : Nat} {F G F1 G1 : Nat → Prop} {m m1 : SM} {ex : ExD} {w w1 : World}
theorem MA.frozen (h : MA base g b F G m ex w) (i : Nat) : w.frozen? ⟨b, i, none⟩ = false := by
 obtain ⟨es, q, h1, _⟩ := h.box
 exact h1.frozen i
theorem made_any (h : MA base g b F G m ex w) (n er : Int) (hn : I64 n) : Calls Tryz.prog 73 #[.pointer (some ⟨b, 0, none⟩), .int .i64 n, .int .i64 er] w (MRet base g b G ex w (⟨m.p, m.regs, m.evs, if m.err = 0 then er else m.err⟩, n)) := by
 have c17 := h.cerr
 have f17 := h.frozen 17
 have HM := hide h
 have HI := hide hn
 clear h hn
 obtain ⟨e2, he2⟩ : ∃ e2, (if m.err = 0 then er else m.err) = e2 := ⟨_, rfl⟩
 rw [he2]
 have HE := hide he2
 clear he2
 cases he : (m.err == 0)
 ·have hE : e2 = m.err := by rw [← HE.out, if_neg (by simpa using he)]
  have HE2 := hide hE
  clear hE
  go_enter Tryz.func73, Tryz.ntmps73
  go_wp2
  go_ret
  exact ⟨rfl, HI.out, F, G, by rw [HE2.out]; exact MG.refl HM.out⟩
 ·have hE : e2 = er := by rw [← HE.out, if_pos (by simpa using he)]
  have HE2 := hide hE
  clear hE
  go_enter Tryz.func73, Tryz.ntmps73
  go_wp2
  go_ret
  exact ⟨rfl, HI.out, F, G, by rw [HE2.out]; exact HM.out.setErr er⟩
theorem num_any (h : MA base g b F G m ex w) (n : Int) (hn : I64 n) : Calls Tryz.prog 81 #[.pointer (some ⟨b, 0, none⟩), .int .i64 n] w (MRet base g b G ex w (m.num n)) := by
 have c0 := h.cp
 have HM := hide h
 have hb0 := hide (Nat.le_trans (h.low b h.nb.2).1 (Nat.le_of_lt h.lt))
 clear h
 go_enter Tryz.func81, Tryz.ntmps81
 go_wp2_with fail
 refine (const_any (IntKind.u64.wrap n) (wrap_u64 _) _ HM.out.pool hb0.out).mono ?_
 rintro e w1 ⟨rfl, F1, hp1⟩
 have HM1 := hide (HM.out.pg hp1)
 clear hp1 c0
 go_wp2_with fail
 refine (made_any HM1.out.at_ _ _ (putN_i64 HM.out.pool.wf _)).mono ?_
 rintro e w2 ⟨rfl, _, F2, G2, hm2⟩
 have HM2 := hide (HM1.out.trans hm2)
 clear hm2
 go_wp2
 go_ret
 exact ⟨rfl, putN_i64 HM.out.pool.wf _, F2, G2, HM2.out⟩
end
end Go.Proofs.YtepagfkkjlbipaaGreat
end
