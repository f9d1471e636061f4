/-
  Parts of the proof of SymbcSound. Conditions: those written in each statement.
-/
import Derived.Test.YtepagfkkjlbipaaGreatKat
import Derived.Test.YtepagfkkjlbipaaGreatKan
set_option linter.unusedVariables false
set_option linter.unusedSimpArgs false
set_option maxHeartbeats 64000000
set_option maxRecDepth 100000
namespace Go.Proofs.YtepagfkkjlbipaaGreat
open Tryz
section
open Go.RowKit
/-! ### instructions that may be -/
structure MayF (x : ID) : Prop where
 kind : 0 ≤ x.kind ∧ x.kind ≤ 6
 dst : 0 ≤ x.dst ∧ x.dst ≤ 10
 src : 0 ≤ x.src ∧ x.src ≤ 10
 off : -32768 ≤ x.off ∧ x.off ≤ 32767
 imm : -2147483648 ≤ x.imm ∧ x.imm ≤ 2147483647
 alu : x.kind = 0 → (0 ≤ x.op ∧ x.op ≤ 12) ∧ (x.width = 32 ∨ x.width = 64)
 size : x.kind = 1 ∨ x.kind = 2 → x.size = 1 ∨ x.size = 2 ∨ x.size = 4 ∨ x.size = 8
 cond : x.kind = 3 → (0 ≤ x.op ∧ x.op ≤ 10) ∧ x.width = 0
 host : x.kind = 5 → 0 ≤ x.imm ∧ x.imm ≤ 15
theorem may_facts {x : ID} (h : mayB x = true) : MayF x := by
 obtain ⟨k, op, wd, sz, br, dst, src, off, imm⟩ := x
 unfold mayB rngB bareM at h
 simp only [Bool.and_eq_true] at h
 obtain ⟨⟨⟨⟨h1, h2⟩, h3⟩, h4⟩, h5, h6⟩ := h
 rw [inB_iff] at h1 h2 h3 h4
 refine ⟨?_, h1, h2, h3, h4, ?_, ?_, ?_, ?_⟩
 ·dsimp only at h5 ⊢
  by_cases k0 : k = 0; · omega
  by_cases k1 : k = 1; · omega
  by_cases k2 : k = 2; · omega
  by_cases k3 : k = 3; · omega
  by_cases k4 : k = 4; · omega
  by_cases k5 : k = 5; · omega
  by_cases k6 : k = 6; · omega
  rw [if_neg k0, if_neg k1, if_neg k2, if_neg k3, if_neg k4, if_neg k5, if_neg k6] at h5
  cases h5
 ·rintro rfl
  dsimp only at h5 ⊢
  rw [if_pos rfl] at h5
  simp only [Bool.and_eq_true, Bool.or_eq_true, beq_iff_eq] at h5
  rw [inB_iff] at h5
  exact ⟨h5.1.1.1, h5.1.1.2⟩
 ·intro hk
  dsimp only at h5 hk ⊢
  unfold szB at h5
  rcases hk with rfl | rfl
  ·rw [if_neg (by decide), if_pos rfl] at h5
   simp only [Bool.and_eq_true, Bool.or_eq_true, beq_iff_eq] at h5
   omega
  ·rw [if_neg (by decide), if_neg (by decide), if_pos rfl] at h5
   simp only [Bool.or_eq_true, beq_iff_eq] at h5
   omega
 ·rintro rfl
  dsimp only at h5 ⊢
  rw [if_neg (by decide), if_neg (by decide), if_neg (by decide), if_pos rfl, inB_iff] at h5
  refine ⟨h5, ?_⟩
  unfold bareR immR kz at h6
  dsimp only at h6
  rw [if_neg (by decide), if_neg (by decide), if_neg (by decide), if_pos rfl] at h6
  cases br <;> simp [ID.cells, eqL, eqV] at h6 <;> omega
 ·rintro rfl
  dsimp only at h5 ⊢
  rw [if_neg (by decide), if_neg (by decide), if_neg (by decide), if_neg (by decide), if_neg (by decide), if_pos rfl, inB_iff] at h5
  exact h5
/-! ### a block of a program that may be -/
structure BkF (l : List ID) (x : BD) (i : Nat) (y : ID) : Prop where
 lo : 0 ≤ x.frm
 lt : x.frm < x.upto
 le : x.upto ≤ (l.length : Int)
 last : x.upto = (i : Int) + 1
 at_ : l[i]? = some y
 one : y.kind ≠ 6 → 1 ≤ x.next.length
 two : y.kind = 3 → x.next.length = 2
theorem blk_facts {l : List ID} (h1 : 0 < l.length) (hn : l.length ≤ 64) (hok : ∀ (j : Nat) (x : ID), l[j]? = some x → okAt l.length j x = true) {x : BD} (hx : x ∈ blkL l) : ∃ i y, BkF l x i y := by
 obtain ⟨b, p, hp, _, rfl⟩ := mem_blkL hx
 have I := blk_inv (begB_zero l) l.length h1
 have hlt := I.lt b p hp
 obtain ⟨f, t⟩ := p
 dsimp only at hlt
 obtain ⟨i, rfl⟩ : ∃ i : Nat, t = (i : Int) + 1 := ⟨(t - 1).toNat, by omega⟩
 have hi : i < l.length := by omega
 have hy : l[i]? = some l[i] := List.getElem?_eq_getElem hi
 have hm := hok i _ hy
 unfold okAt at hm
 have hm2 := may_facts (x := l[i]) (by simp only [Bool.and_eq_true] at hm; exact hm.1)
 have ht : l[i].kind = 3 ∨ l[i].kind = 4 → tgtB i l[i] = true := by
  intro hk
  unfold tgtB
  simp only [Bool.and_eq_true, Bool.or_eq_true, beq_iff_eq]
  rw [inB_iff, inB_iff]
  have := hm2.off
  omega
 refine ⟨i, l[i], ?_⟩
 rw [bkAt_eq hy]
 refine ⟨by show 0 ≤ f; omega, by show f < (i : Int) + 1; omega, by show (i : Int) + 1 ≤ _; omega, rfl, hy, fun h6 => ?_, fun h3 => ?_⟩
 ·show 1 ≤ (nextOf (begB l) b i l[i]).length
  unfold nextOf
  rw [List.length_append]
  by_cases h4 : l[i].kind = 4
  ·rw [if_pos (ht (.inr h4))]; simp
  ·rw [if_neg (by omega : ¬ (l[i].kind = 4 ∨ l[i].kind = 6))]; simp
 ·show (nextOf (begB l) b i l[i]).length = 2
  unfold nextOf
  rw [List.length_append, if_pos (ht (.inl h3)), if_neg (by omega : ¬ (l[i].kind = 4 ∨ l[i].kind = 6))]
  rfl
/-! ### Run -/
def zeroRg : List Int := List.replicate 11 0
def zeroEx : ExD := ⟨0, 0, 0, 0⟩
structure RunD where
 p : PS
 regs : List Int
 evs : List EvD
 ex : ExD
 err : Int
def regsB (p : PS) (regs : List Int) : Bool := regs.all fun r => decide (0 ≤ r) && decide (r < (p.T.length : Int))
def askB (p : PS) (l : List ID) (block : Int) (regs : List Int) : Bool := decide (0 ≤ block) && (decide (block < ((blkL l).length : Int)) && regsB p regs)
def noBlk : BD := ⟨0, 0, []⟩
def noIns : ID := ⟨0, 0, 0, 0, false, 0, 0, 0, 0⟩
def blkAt (l : List ID) (block : Int) : BD := (blkL l).getD block.toNat noBlk
def insOf (l : List ID) (x : BD) : List ID := (l.drop x.frm.toNat).take (x.upto - x.frm).toNat
noncomputable def goV (p : PS) (l : List ID) (block : Int) (regs : List Int) : SM := (SM.mk p regs [] 0).go (insOf l (blkAt l block))
noncomputable def runV (p : PS) (c : Int) (l : List ID) (block : Int) (regs : List Int) : RunD :=
 if (chkP c l).2 ≠ 0 then ⟨p, zeroRg, [], zeroEx, (chkP c l).2⟩
 else if askB p l block regs = false then ⟨p, zeroRg, [], zeroEx, 2⟩
 else
  let m := goV p l block regs
  if m.err ≠ 0 then ⟨m.p, zeroRg, [], zeroEx, m.err⟩
  else
   let q := m.ends (l.getD ((blkAt l block).upto - 1).toNat noIns) (blkAt l block).next
   if q.1.err ≠ 0 then ⟨q.1.p, zeroRg, [], zeroEx, q.1.err⟩ else ⟨q.1.p, q.1.regs, q.1.evs, q.2, 0⟩
/-! ### what a step leaves -/
theorem go_app (m : SM) : ∀ (a b : List ID), m.go (a ++ b) = (m.go a).go b := by
 intro a
 induction a generalizing m with
 | nil => intro b; rfl
 | cons x r ih => intro b; exact ih (m.step x) b
theorem go_take {m : SM} {l : List ID} {k : Nat} {x : ID} (h : l[k]? = some x) : m.go (l.take (k + 1)) = (m.go (l.take k)).step x := by
 rw [List.take_add_one, h, go_app]
 rfl
theorem second_evl (m : SM) (x : ID) : (m.second x).1.evs = m.evs := by
 unfold SM.second
 split
 ·rfl
 ·split <;> rfl
theorem step_evs (m : SM) (x : ID) : (m.step x).evs.length ≤ m.evs.length + 1 := by
 unfold SM.step
 split
 ·omega
 split
 ·show ((m.second x).1).evs.length ≤ _
  rw [second_evl]; omega
 split
 ·show (m.evs ++ [_]).length ≤ _
  simp
 split
 ·show (m.evs ++ [_]).length ≤ _
  simp
 split
 ·show (m.evs ++ [_]).length ≤ _
  simp
 ·omega
theorem go_evs (m : SM) : ∀ (l : List ID), (m.go l).evs.length ≤ m.evs.length + l.length := by
 intro l
 induction l generalizing m with
 | nil => exact Nat.le_refl _
 | cons x r ih =>
  have h1 := ih (m.step x)
  have h2 := step_evs m x
  show ((m.step x).go r).evs.length ≤ _
  simp
  omega
theorem step_err {m : SM} (h : m.err ≠ 0) (x : ID) : m.step x = m := by unfold SM.step; rw [if_pos h]
end
section
open Go.RowKit
def EvD.wf (x : EvD) : Prop := I8 x.kind ∧ I8 x.size ∧ I64 x.a ∧ I64 x.v ∧ I64 x.num
def evC (p : EvD × Value) : List Value := [.int .i8 p.1.kind, .int .i8 p.1.size, .int .i64 p.1.a, .int .i64 p.1.v, .int .i64 p.1.num, p.2]
def EvsAt (w : World) (F : Nat → Prop) (s : Value) (l : List EvD) : Prop := ∃ A c, ∃ q : List (EvD × Value), s = .slice A l.length c ∧ l.length ≤ c ∧ q.map (·.1) = l ∧ ReadsF w F 6 A l.length (q.flatMap evC) ∧ ∀ p ∈ q, p.1.wf ∧ NumsF w F p.2 p.1.args
section
variable {w w' : World} {F G H : Nat → Prop} {n : Nat} {A : Option Addr} {s : Value} {l : List EvD}
theorem EvsAt.chg (h : EvsAt w F s l) (hc : Chg H w w') (hH : ∀ b, H b → F b ∨ w.heap.size ≤ b) (hG : ∀ b, G b → F b ∨ w.heap.size ≤ b) : EvsAt w' G s l := by
 obtain ⟨A, c, q, h1, h2, h3, h4, h5⟩ := h
 exact ⟨A, c, q, h1, h2, h3, h4.chg hc hH hG, fun p hp => ⟨(h5 p hp).1, (h5 p hp).2.chg hc hH hG⟩⟩
theorem EvsAt.form (h : EvsAt w F s l) : ∃ A c, s = .slice A l.length c ∧ l.length ≤ c := by
 obtain ⟨A, c, q, h1, h2, _⟩ := h
 exact ⟨A, c, h1, h2⟩
theorem EvsAt.at_ {m c k : Nat} (h : EvsAt w F (.slice A m c) l) (hk : k < m) : ∃ ad x v, A = some ad ∧ ad.block < w.heap.size ∧ l[k]? = some x ∧ x.wf ∧ NumsF w F v x.args ∧ ∀ j u, (evC (x, v))[j]? = some u → w.cell? ((ad.add (k * 6)).add j) = some u := by
 obtain ⟨A', c', q, h1, h2, rfl, h4, h5⟩ := h
 injection h1 with h0 h1 hc
 subst h0 h1 hc
 obtain ⟨ad, e, hb, _, hc⟩ := h4.2 (by omega)
 have hkq : k < q.length := by simpa using hk
 have hx : q[k]? = some q[k] := List.getElem?_eq_getElem hkq
 obtain ⟨h6, h7⟩ := h5 _ (List.getElem_mem hkq)
 refine ⟨ad, q[k].1, q[k].2, e, hb, by rw [List.getElem?_map, hx]; rfl, h6, h7, fun j u hu => ?_⟩
 rw [add_of_add]
 exact hc _ u (flat_at evC 6 q (fun z hz => rfl) k j _ u hx hu)
theorem EvsAt.nil : EvsAt w F (.slice none 0 0) [] := ⟨none, 0, [], rfl, Nat.le_refl _, rfl, ReadsF.none_, by simp⟩
end
end
section
open Go.RowKit
def mC (g : Nat) (regs : List Int) (es : Value) (ex : ExD) (er : Int) : List Value :=
 .pointer (some ⟨g, 0, none⟩) :: (regs.map (Value.int .i64) ++ [es, .int .i8 ex.kind, .int .i64 ex.v, .int .i64 ex.tgt, .int .i64 ex.els, .int .i64 er])
section
variable {g : Nat} {regs : List Int} {es es' : Value} {ex ex' : ExD} {er er' : Int}
theorem mC_reg (hl : regs.length = 11) {d : Nat} (hd : d < 11) : (mC g regs es ex er)[1 + d]? = some (.int .i64 (regs.getD d 0)) := by
 unfold mC
 rw [Nat.add_comm, List.getElem?_cons_succ, List.getElem?_append_left (by simp; omega), List.getElem?_map, List.getD_eq_getElem?_getD, List.getElem?_eq_getElem (by omega)]
 rfl
theorem mC_tail (hl : regs.length = 11) (k : Nat) : (mC g regs es ex er)[12 + k]? = ([es, .int .i8 ex.kind, .int .i64 ex.v, .int .i64 ex.tgt, .int .i64 ex.els, .int .i64 er] : List Value)[k]? := by
 unfold mC
 rw [show 12 + k = (11 + k) + 1 by omega, List.getElem?_cons_succ, List.getElem?_append_right (by simp; omega)]
 congr 1
 simp
 omega
theorem mC_len (hl : regs.length = 11) : (mC g regs es ex er).length = 18 := by unfold mC; simp; omega
theorem mC_setReg (hl : regs.length = 11) {d : Nat} (hd : d < 11) (n : Int) : (mC g regs es ex er).set (1 + d) (.int .i64 n) = mC g (regs.set d n) es ex er := by
 unfold mC
 rw [Nat.add_comm, List.set_cons_succ, List.set_append_left _ _ (by simp; omega), List.map_set]
theorem mC_setEs (hl : regs.length = 11) : (mC g regs es ex er).set 12 es' = mC g regs es' ex er := by
 unfold mC
 rw [show 12 = 11 + 1 by omega, List.set_cons_succ, List.set_append_right _ _ (by simp; omega)]
 simp [hl]
theorem mC_setErr (hl : regs.length = 11) : (mC g regs es ex er).set 17 (.int .i64 er') = mC g regs es ex er' := by
 unfold mC
 rw [show 17 = 16 + 1 by omega, List.set_cons_succ, List.set_append_right _ _ (by simp; omega)]
 simp [hl]
theorem mC_over (hl : regs.length = 11) : overC (mC g regs es ex er) 13 [.int .i8 ex'.kind, .int .i64 ex'.v, .int .i64 ex'.tgt, .int .i64 ex'.els] = mC g regs es ex' er := by
 unfold overC mC
 match regs, hl with
 | [a0, a1, a2, a3, a4, a5, a6, a7, a8, a9, a10], _ => rfl
end
def Up (G : Nat → Prop) (b k : Nat) : Prop := G k ∨ k ≤ b
structure MA (base g b : Nat) (F G : Nat → Prop) (m : SM) (ex : ExD) (w : World) : Prop where
 pool : PoolAt w base F g m.p
 box : ∃ es, ∃ q : List (EvD × Value), Blk w b 114 (mC g m.regs es ex m.err).toArray ∧ w.ownsRow (b + 1) 72 6 es m.evs.length (q.flatMap evC) ∧ q.map (·.1) = m.evs ∧ (∀ p ∈ q, p.1.wf ∧ NumsF w (Up G b) p.2 p.1.args) ∧ ∀ k, es.ownBlock = some k → G k ∧ ¬ F k ∧ k ≠ b
 nb : ¬ F b ∧ G b
 sub : ∀ k, F k → G k
 low : ∀ k, G k → base ≤ k ∧ k < w.heap.size
 len : m.regs.length = 11
 rng : ∀ r ∈ m.regs, I64 r
 few : m.evs.length ≤ 64
structure MG (base g b : Nat) (G : Nat → Prop) (w : World) (F' G' : Nat → Prop) (m : SM) (ex : ExD) (w' : World) : Prop where
 at_ : MA base g b F' G' m ex w'
 chg : Chg G w w'
 new : ∀ k, G' k → G k ∨ w.heap.size ≤ k
section
variable {base g b : Nat} {F G F1 G1 F2 G2 : Nat → Prop} {m m1 m2 : SM} {ex ex1 ex2 : ExD} {w w1 w2 : World} {p1 : PS}
theorem MG.refl (h : MA base g b F G m ex w) : MG base g b G w F G m ex w := ⟨h, Chg.refl _ _, fun k q => .inl q⟩
theorem MG.trans (h : MG base g b G w F1 G1 m1 ex1 w1) (k : MG base g b G1 w1 F2 G2 m2 ex2 w2) : MG base g b G w F2 G2 m2 ex2 w2 :=
 ⟨k.at_, h.chg.trans k.chg h.new, fun b q => (k.new b q).elim (h.new b) (fun e => .inr (Nat.le_trans h.chg.size e))⟩
theorem MG.size (h : MG base g b G w F1 G1 m1 ex1 w1) : w.heap.size ≤ w1.heap.size := h.chg.size
theorem MG.blk (h : MG base g b G w F1 G1 m1 ex1 w1) {c : Nat} {t : TypeId} {cs : Array Value} (hb : Blk w c t cs) (hg : ¬ G c) : Blk w1 c t cs ∧ ¬ G1 c :=
 ⟨h.chg.blk hb hg, fun q => (h.new c q).elim hg (fun e => by have := hb.lt; omega)⟩
theorem MA.below (h : MA base g b F G m ex w) (hb : Below w.heap.size w w1) : MA base g b F G m ex w1 := by
 obtain ⟨es, q, h1, h2, h3, h4, h5⟩ := h.box
 exact ⟨h.pool.below hb, ⟨es, q, h1.below hb h1.lt, (RowL.of_own h2).below hb |> fun _ => own_block h2 (fun k hk => hb.block k (own_ge h2 k hk).2), h3, fun p hp => ⟨(h4 p hp).1, (h4 p hp).2.chg (.of_below hb) (fun k hk => .inr hk) (fun k hk => .inl hk)⟩, h5⟩, h.nb, h.sub, fun k hk => ⟨(h.low k hk).1, Nat.lt_of_lt_of_le (h.low k hk).2 hb.size⟩, h.len, h.rng, h.few⟩
theorem MG.step (h : MG base g b G w F1 G1 m1 ex1 w1) (hb : Below w1.heap.size w1 w2) : MG base g b G w F1 G1 m1 ex1 w2 := h.trans ⟨h.at_.below hb, Chg.of_below hb |>.mono (fun _ q => .inr q), fun k q => .inl q⟩
theorem MG.of_below (h : MA base g b F G m ex w) (hb : Below w.heap.size w w1) : MG base g b G w F G m ex w1 := (MG.refl h).step hb
theorem MA.pg (h : MA base g b F G m ex w) (k : PG base g F w F1 p1 w1) : MG base g b G w F1 (fun c => G c ∨ F1 c) { m with p := p1 } ex w1 := by
 obtain ⟨es, q, h1, h2, h3, h4, h5⟩ := h.box
 have hb := k.blk h1 h.nb.1
 have hc : Chg G w w1 := k.chg.mono (fun c q => .inl (h.sub c q))
 refine ⟨⟨k.pool, ⟨es, q, hb.1, k.chg.own h2 (fun c hc => (h5 c hc).2.1), h3, fun p hp => ⟨(h4 p hp).1, (h4 p hp).2.chg hc (fun c q => .inl (.inl q)) (fun c q => q.elim (fun q => q.elim (fun q => .inl (.inl q)) (fun q => (k.new c q).elim (fun q => .inl (.inl (h.sub c q))) .inr)) (fun q => .inl (.inr q)))⟩, fun c hc => ⟨.inl (h5 c hc).1, fun q => (k.new c q).elim (h5 c hc).2.1 (fun e => by have := (own_ge h2 c hc).2; omega), (h5 c hc).2.2⟩⟩, ⟨hb.2, .inl h.nb.2⟩, fun c q => .inr q, fun c q => ?_, h.len, h.rng, h.few⟩, hc, fun c q => q.elim .inl (fun q => (k.new c q).elim (fun q => .inl (h.sub c q)) .inr)⟩
 rcases q with q | q
 ·have := h.low c q
  have := k.chg.size
  omega
 ·exact k.pool.fb c q
theorem chg_setCell {c : Addr} (hc : c.block = b) (u : Value) (hG : G b) : Chg G w (w.setCell c u) :=
 ⟨rfl, rfl, rfl, by simp, fun k hk hn => Below.heap_setCell w c u k (fun e => hn (by rw [e, hc]; exact hG))⟩
theorem MA.cell (h : MA base g b F G m ex w) {i : Nat} {u : Value} {m1 : SM} {ex1 : ExD} (hp : m1.p = m.p) (he : m1.evs = m.evs) (hl : m1.regs.length = 11) (hr : ∀ r ∈ m1.regs, I64 r)
  (hs : ∀ es, (mC g m.regs es ex m.err).set i u = mC g m1.regs es ex1 m1.err) : MG base g b G w F G m1 ex1 (w.setCell ⟨b, i, none⟩ u) := by
 obtain ⟨es, q, h1, h2, h3, h4, h5⟩ := h.box
 have hc : Chg G w (w.setCell ⟨b, i, none⟩ u) := chg_setCell rfl u h.nb.2
 have hcF : Chg (fun k => k = b) w (w.setCell ⟨b, i, none⟩ u) := chg_setCell (b := b) rfl u rfl
 have hB := h1.set_ i u
 rw [List.setIfInBounds_toArray, hs] at hB
 refine ⟨⟨?_, ⟨es, q, hB, ?_, by rw [he]; exact h3, fun p hp => ⟨(h4 p hp).1, (h4 p hp).2.chg hc (fun c q => .inl (.inl q)) (fun c q => .inl q)⟩, h5⟩, h.nb, h.sub, fun k hk => ⟨(h.low k hk).1, Nat.lt_of_lt_of_le (h.low k hk).2 hc.size⟩, hl, hr, by rw [he]; exact h.few⟩, hc, fun k q => .inl q⟩
 ·rw [hp]; exact h.pool.chg hcF (fun c q e => h.nb.1 (e ▸ q))
 ·rw [he]; exact hcF.own h2 (fun c hc e => (h5 c hc).2.2 e)
theorem MA.setErr (h : MA base g b F G m ex w) (er : Int) : MG base g b G w F G { m with err := er } ex (w.setCell ⟨b, 17, none⟩ (.int .i64 er)) :=
 h.cell rfl rfl h.len h.rng (fun es => mC_setErr h.len)
theorem MA.setReg (h : MA base g b F G m ex w) {d : Nat} (hd : d < 11) {n : Int} (hn : I64 n) : MG base g b G w F G { m with regs := m.regs.set d n } ex (w.setCell ⟨b, 1 + d, none⟩ (.int .i64 n)) :=
 h.cell rfl rfl (by rw [List.length_set]; exact h.len) (fun r hr => (List.mem_or_eq_of_mem_set hr).elim (h.rng r) (fun e => e ▸ hn)) (fun es => mC_setReg h.len hd n)
theorem MA.cp (h : MA base g b F G m ex w) : w.cell? ⟨b, 0, none⟩ = some (.pointer (some ⟨g, 0, none⟩)) := by
 obtain ⟨es, q, h1, _⟩ := h.box
 rw [h1.cell 0]
 rfl
theorem MA.creg (h : MA base g b F G m ex w) {d : Nat} (hd : d < 11) : w.cell? ⟨b, 1 + d, none⟩ = some (.int .i64 (m.regs.getD d 0)) := by
 obtain ⟨es, q, h1, _⟩ := h.box
 rw [h1.cell (1 + d), List.getElem?_toArray]
 exact mC_reg h.len hd
theorem MA.cerr (h : MA base g b F G m ex w) : w.cell? ⟨b, 17, none⟩ = some (.int .i64 m.err) := by
 obtain ⟨es, q, h1, _⟩ := h.box
 rw [h1.cell 17, List.getElem?_toArray]
 exact mC_tail h.len 5
theorem MA.ces (h : MA base g b F G m ex w) : ∃ es, ∃ q : List (EvD × Value), w.cell? ⟨b, 12, none⟩ = some es ∧ Blk w b 114 (mC g m.regs es ex m.err).toArray ∧ w.ownsRow (b + 1) 72 6 es m.evs.length (q.flatMap evC) ∧ q.map (·.1) = m.evs ∧ (∀ p ∈ q, p.1.wf ∧ NumsF w (Up G b) p.2 p.1.args) ∧ ∀ k, es.ownBlock = some k → G k ∧ ¬ F k ∧ k ≠ b := by
 obtain ⟨es, q, h1, h2⟩ := h.box
 refine ⟨es, q, ?_, h1, h2⟩
 rw [h1.cell 12, List.getElem?_toArray]
 exact mC_tail h.len 0
theorem MA.lt (h : MA base g b F G m ex w) : b < w.heap.size := (h.low b h.nb.2).2
theorem getD_mem {l : List Int} {d : Nat} (h : d < l.length) : l.getD d 0 ∈ l := by
 rw [List.getD_eq_getElem?_getD, List.getElem?_eq_getElem h]
 exact List.getElem_mem h
theorem MA.reg_i64 (h : MA base g b F G m ex w) {d : Nat} (hd : d < 11) : I64 (m.regs.getD d 0) := h.rng _ (getD_mem (by rw [h.len]; exact hd))
def MRet (base g b : Nat) (G : Nat → Prop) (ex : ExD) (w : World) (r : SM × Int) (e : Ending) (w' : World) : Prop := e = .returned (.int .i64 r.2) ∧ I64 r.2 ∧ ∃ F' G', MG base g b G w F' G' r.1 ex w'
end
end
section
open Go.RowKit
theorem i64_zero : I64 0 := by unfold I64; omega
theorem cond_i64 : ∀ (f : Nat) {p : PS} (hw : WfP p) (hr : ∀ t ∈ p.T, t.wf) {cc x a b : Int} (ha : I64 a) (hb : I64 b) {q : RS} (h : condF f p cc x a b = some q), I64 q.2.1
 | 0, _, _, _, _, _, _, _, _, _, _, h => by cases h
 | f + 1, p, hw, hr, cc, x, a, b, ha, hb, q, h => by
  rw [condF_succ] at h
  split at h
  ·injection h with h; subst h; unfold I64; dsimp only; omega
  split at h
  ·injection h with h; subst h; unfold I64; dsimp only; omega
  split at h
  ·have hi := both_i64 hw hr ha hb x
   have hw2 := both_wf hw hr ha hb x
   unfold condL at h
   dsimp only at h
   split at h
   ·injection h with h; subst h; exact putN_i64 hw2.1 _
   split at h
   ·injection h with h; subst h; exact putN_i64 hw2.1 _
   split at h
   ·exact cond_i64 f hw2.1 hw2.2 hi.2 hi.1 h
   split at h
   ·injection h with h; subst h; exact putN_i64 hw2.1 _
   ·injection h with h; subst h; exact putN_i64 hw2.1 _
  ·injection h with h; subst h; unfold I64; dsimp only; omega
theorem zext_num : ∀ (f : Nat) {p : PS} (hw : WfP p) (hr : ∀ t ∈ p.T, t.wf) {x a : Int} {r : RS}, I64 a → zextF f p x a = some r → I64 r.2.1
 | 0, _, _, _, _, _, _, _, h => by cases h
 | f + 1, p, hw, hr, x, a, r, ha, h => by
  rw [zextF_succ] at h
  split at h
  ·injection h with h; subst h; exact ha
  split at h
  ·injection h with h; subst h; exact putN_i64 hw _
  split at h
  ·injection h with h; subst h; exact ha
  split at h
  ·exact zext_num f hw hr (atP_wf hr a).2.2.2.2.1 h
  ·injection h with h; subst h; exact putN_i64 hw _
theorem zextV_num {p : PS} (hw : WfP p) (hr : ∀ t ∈ p.T, t.wf) (x : Int) {a : Int} (ha : I64 a) : I64 (zextV p x a).2.1 := by
 have h := zextV_some hw x a
 unfold zextO at h
 split at h
 ·injection h with h; rw [← h]; exact i64_zero
 ·exact zext_num _ hw hr ha h
theorem bind_num {r s : RS} {k : PS → Int → Option RS} (hk : r.2.2 = 0 → ∀ s, k r.1 r.2.1 = some s → I64 s.2.1) (hs : bindR r k = some s) : I64 s.2.1 := by
 unfold bindR at hs
 split at hs
 ·rename_i h0; exact hk h0 s hs
 ·injection hs with hs; subst hs; exact i64_zero
theorem op_num : ∀ (f : Nat) {p : PS} (hw : WfP p) (hr : ∀ t ∈ p.T, t.wf) {op x a b : Int} {r : RS}, opF f p op x a b = some r → I64 r.2.1
 | 0, _, _, _, _, _, _, _, _, h => by cases h
 | f + 1, p, hw, hr, op, x, a, b, r, h => by
  rw [opF_succ] at h
  split at h
  ·injection h with h; subst h; exact i64_zero
  rename_i hab
  have hab : hasB p.T a = true ∧ hasB p.T b = true := by simpa using hab
  split at h
  ·injection h with h; subst h; exact i64_zero
  have ha := has_i64 hw hab.1
  have hb := has_i64 hw hab.2
  have hi := both_i64 hw hr ha hb x
  have hw2 := both_wf hw hr ha hb x
  split at h
  ·generalize bothP p x a b = z at h hw2 hi
   obtain ⟨p1, a1, b1, e1⟩ := z
   dsimp only at h hw2 hi
   have hc : ∀ {n : Int}, U64 n → Good p1 (putR p1 (constT n)) := fun hn => Good.put hw2.1 hw2.2 (constT_wf hn)
   unfold opL at h
   dsimp only at h
   split at h
   ·injection h with h; subst h; exact putN_i64 hw2.1 _
   split at h
   ·exact bind_num (fun _ s hs => op_num f (hc zero_u64).wf (hc zero_u64).rng hs) h
   split at h
   ·exact zext_num f hw2.1 hw2.2 hi.2 h
   split at h
   ·have hu : U64 (cutV x (IntKind.u64.wrap (-(atP p1.T b1).n))) := cutV_u64 (wrap_u64 _)
    exact bind_num (fun _ s hs => op_num f (hc hu).wf (hc hu).rng hs) h
   split at h
   ·exact op_num f hw2.1 hw2.2 h
   split at h
   ·have hu : U64 (cutV x (IntKind.u64.wrap ((atP p1.T (atP p1.T a1).b).n + (atP p1.T b1).n))) := cutV_u64 (wrap_u64 _)
    exact bind_num (fun _ s hs => op_num f (hc hu).wf (hc hu).rng hs) h
   split at h
   ·exact zext_num f hw2.1 hw2.2 hi.1 h
   split at h
   ·injection h with h; subst h; exact putN_i64 hw2.1 _
   split at h
   ·injection h with h; subst h; exact putN_i64 hw2.1 _
   split at h
   ·exact zext_num f hw2.1 hw2.2 hi.1 h
   ·injection h with h; subst h; exact putN_i64 hw2.1 _
  ·injection h with h; subst h; exact i64_zero
theorem opV_num {p : PS} (hw : WfP p) (hr : ∀ t ∈ p.T, t.wf) (op x a b : Int) : I64 (opV p op x a b).2.1 := by
 obtain ⟨f, h⟩ := opV_some hw hr op x a b
 exact op_num f hw hr h
theorem condV_num {p : PS} (hw : WfP p) (hr : ∀ t ∈ p.T, t.wf) (cc x : Int) {a b : Int} (ha : I64 a) (hb : I64 b) : I64 (condV p cc x a b).2.1 := cond_i64 2 hw hr ha hb (condV_some p cc x a b)
end
section
open Go.RowKit
section
variable {base g b : Nat} {F G F1 G1 : Nat → Prop} {m m1 : SM} {ex : ExD} {w w1 : World}
theorem MA.frozen (h : MA base g b F G m ex w) (i : Nat) : w.frozen? ⟨b, i, none⟩ = false := by
 obtain ⟨es, q, h1, _⟩ := h.box
 exact h1.frozen i
theorem made_any (h : MA base g b F G m ex w) (n er : Int) (hn : I64 n) : Calls prog 73 #[.pointer (some ⟨b, 0, none⟩), .int .i64 n, .int .i64 er] w (MRet base g b G ex w (⟨m.p, m.regs, m.evs, if m.err = 0 then er else m.err⟩, n)) := by
 have c17 := h.cerr
 have f17 := h.frozen 17
 have HM := Hd h
 have HI := Hd hn
 clear h hn
 obtain ⟨e2, he2⟩ : ∃ e2, (if m.err = 0 then er else m.err) = e2 := ⟨_, rfl⟩
 rw [he2]
 have HE := Hd he2
 clear he2
 cases he : (m.err == 0)
 ·have hE : e2 = m.err := by rw [← HE.out, if_neg (by simpa using he)]
  have HE2 := Hd hE
  clear hE
  go_enter func73, ntmps73
  go_wp2
  go_ret
  exact ⟨rfl, HI.out, F, G, by rw [HE2.out]; exact MG.refl HM.out⟩
 ·have hE : e2 = er := by rw [← HE.out, if_pos (by simpa using he)]
  have HE2 := Hd hE
  clear hE
  go_enter func73, ntmps73
  go_wp2
  go_ret
  exact ⟨rfl, HI.out, F, G, by rw [HE2.out]; exact HM.out.setErr er⟩
theorem num_any (h : MA base g b F G m ex w) (n : Int) (hn : I64 n) : Calls prog 81 #[.pointer (some ⟨b, 0, none⟩), .int .i64 n] w (MRet base g b G ex w (m.num n)) := by
 have c0 := h.cp
 have HM := Hd h
 have hb0 := Hd (Nat.le_trans (h.low b h.nb.2).1 (Nat.le_of_lt h.lt))
 clear h
 go_enter func81, ntmps81
 go_wp2_with fail
 refine (const_any (IntKind.u64.wrap n) (wrap_u64 _) _ HM.out.pool hb0.out).mono ?_
 rintro e w1 ⟨rfl, F1, hp1⟩
 have HM1 := Hd (HM.out.pg hp1)
 clear hp1 c0
 go_wp2_with fail
 refine (made_any HM1.out.at_ _ _ (putN_i64 HM.out.pool.wf _)).mono ?_
 rintro e w2 ⟨rfl, _, F2, G2, hm2⟩
 have HM2 := Hd (HM1.out.trans hm2)
 clear hm2
 go_wp2
 go_ret
 exact ⟨rfl, putN_i64 HM.out.pool.wf _, F2, G2, HM2.out⟩
end
end
section
open Go.RowKit
theorem holds_cut (cc : Int) {x a b a' b' : Int} (h1 : cutV x a' = cutV x a) (h2 : cutV x b' = cutV x b) : holdsU cc x a' b' = holdsU cc x a b := by
 unfold holdsU
 rw [h1, h2]
theorem ord_self (a : Int) : ordV a a = 0 := by unfold ordV; simp
theorem holds_self {cc : Int} (h : cc ≠ 10) (x a : Int) : holdsU cc x 0 0 = holdsU cc x a a := by
 unfold holdsU
 rw [if_neg h, if_neg h]
 simp only [ord_self]
theorem ord_neg (a b : Int) : ordV b a = - ordV a b := by
 unfold ordV
 by_cases h1 : a < b
 ·rw [if_neg (by omega), if_pos h1, if_pos h1]; rfl
 ·by_cases h2 : b < a
  ·rw [if_pos h2, if_neg h1, if_pos h2]
  ·rw [if_neg h2, if_neg h1, if_neg h1, if_neg h2]; rfl
theorem holds_turned {cc : Int} (h : turnedB cc = true) (x a b : Int) : holdsU (turnedV cc) x b a = holdsU cc x a b := by
 unfold turnedB at h
 simp at h
 have key : ∀ u v : Int, (ordV v u < 0 ↔ 0 < ordV u v) ∧ (ordV v u ≤ 0 ↔ 0 ≤ ordV u v) := by
  intro u v
  rw [ord_neg u v]
  constructor <;> omega
 rcases h with rfl | rfl | rfl | rfl
 ·show holdsU 4 x b a = holdsU 2 x a b
  unfold holdsU
  simp
  exact (key _ _).1
 ·show holdsU 5 x b a = holdsU 3 x a b
  unfold holdsU
  simp
  exact (key _ _).2
 ·show holdsU 8 x b a = holdsU 6 x a b
  unfold holdsU
  simp
  exact (key _ _).1
 ·show holdsU 9 x b a = holdsU 7 x a b
  unfold holdsU
  simp
  exact (key _ _).2
section
variable {vs : List Int} (hU : ∀ v ∈ vs, U64 v)
include hU
theorem op_snd : ∀ (f : Nat) {p : PS} (hw : WfP p) (hr : ∀ t ∈ p.T, t.wf) (hav : AV vs p) {op x a b va vb : Int} {r : RS} (hva : evP p.T vs a = some va) (hvb : evP p.T vs b = some vb), opF f p op x a b = some r → Snd vs p r (doU op x va vb)
 | 0, _, _, _, _, _, _, _, _, _, _, _, _, _, h => by cases h
 | f + 1, p, hw, hr, hav, op, x, a, b, va, vb, r, hva, hvb, h => by
  rw [opF_succ] at h
  split at h
  ·injection h with h; subst h; exact Snd.err hw hr hav 0 _ (by decide)
  rename_i hab
  have hab : hasB p.T a = true ∧ hasB p.T b = true := by simpa using hab
  split at h
  ·injection h with h; subst h; exact Snd.err hw hr hav 0 _ (by decide)
  rename_i hd
  have hd := doOk_yes (op := op) (x := x) (by simpa using hd)
  have hx := hd.1
  have hwx : Wd4 x := by unfold Wd4; omega
  have hI8 : I8 op ∧ I8 x := by unfold I8; omega
  have hw2 := both_wf hw hr (has_i64 hw hab.1) (has_i64 hw hab.2) x
  have hbs := both_snd hU hw hr hav hx hab.1 hab.2 hva hvb
  have hua := evP_u64 hr hU hva
  have hub := evP_u64 hr hU hvb
  split at h
  ·rename_i h0
   have hf := both_facts hw hr hab.1 hab.2 h0
   have hbe := both_ext p x a b
   obtain ⟨ua, ub, hA, hB, hcA, hcB, huA, huB⟩ := hbs.2 h0
   have hav2 := hbs.1
   rw [← doU_cong op hx hua hub huA huB hcA hcB]
   refine Snd.up hbe ?_
   generalize bothP p x a b = z at h hw2 hf hA hB hav2
   obtain ⟨p1, a1, b1, e1⟩ := z
   dsimp only at h hw2 hf hA hB hav2
   have hc : ∀ {n : Int}, U64 n → Snd vs p1 (putR p1 (constT n)) n := fun hn => Snd.put hw2.1 hw2.2 hav2 (constT_wf hn) rfl
   have upA : ∀ {q : PS} {v : Int} {s : RS}, Snd vs p1 s v → ∀ {n w : Int}, evP p1.T vs n = some w → evP s.1.T vs n = some w := fun {_ _ _} hs {_ _} hn => ev_up hw2.1 hs.good.wf hs.good.ext hn
   have kA : (atP p1.T a1).kind = 0 → (atP p1.T a1).n = ua := fun k => by
    have := ev_const (vs := vs) hw2.1 hf.1 k
    rw [hA] at this
    injection this with this
    exact this.symm
   have kB : (atP p1.T b1).kind = 0 → (atP p1.T b1).n = ub := fun k => by
    have := ev_const (vs := vs) hw2.1 hf.2.1 k
    rw [hB] at this
    injection this with this
    exact this.symm
   unfold opL at h
   dsimp only at h
   split at h
   ·rename_i c1
    injection h with h; subst h
    simp at c1
    rw [kA c1.1, kB c1.2]
    exact hc (cutV_u64 (doV_u64 (cutV_u64 huA) (cutV_u64 huB)))
   split at h
   ·rename_i c2
    subst c2
    refine Snd.bind (hc zero_u64) (fun hz s hs => ?_) h
    have h1 := hc zero_u64
    exact (op_snd f h1.good.wf h1.good.rng h1.av (h1.val hz) (upA (q := p1) h1 hA) hs).cast (law_neg hx huA)
   split at h
   ·rename_i c3
    subst c3
    exact (zext_snd hU f hw2.1 hw2.2 hav2 hwx hf.2.1 hB h).cast (law_mov hx huB)
   split at h
   ·rename_i c4
    have hop : op = 1 ∧ (atP p1.T b1).kind = 0 := by simpa using c4
    rw [kB hop.2] at h
    obtain ⟨rfl, _⟩ := hop
    have hu : U64 (cutV x (IntKind.u64.wrap (-ub))) := cutV_u64 (wrap_u64 _)
    refine Snd.bind (hc hu) (fun hz s hs => ?_) h
    have h1 := hc hu
    exact (op_snd f h1.good.wf h1.good.rng h1.av (upA (q := p1) h1 hA) (h1.val hz) hs).cast (law_sub hx huA huB)
   split at h
   ·rename_i c5
    have ht : turnsB op = true := by
     cases ht : turnsB op
     ·rw [ht] at c5; simp at c5
     ·rfl
    exact (op_snd f hw2.1 hw2.2 hav2 hB hA h).cast (doU_comm ht x ub ua)
   split at h
   ·rename_i c6
    unfold assocB at c6
    simp at c6
    obtain ⟨rfl, hkb, hks, hk2, hop0, hww⟩ := c6
    have hsa := has_prt hw2.1 hf.1 (k := (atP p1.T a1).a) (by unfold prtL; rw [if_pos (.inl hk2)]; simp)
    have hsb := has_prt hw2.1 hf.1 (k := (atP p1.T a1).b) (by unfold prtL; rw [if_pos (.inl hk2)]; simp)
    obtain ⟨vsa, hvsa⟩ := hav2 _ hsa
    have hcb := ev_const (vs := vs) hw2.1 hsb hks
    have hA' := hA
    rw [evP_eq hw2.1 hf.1] at hA'
    unfold evT at hA'
    rw [if_neg (by omega), if_neg (by omega), if_pos hk2, hvsa, hcb] at hA'
    have hA'' : doU (atP p1.T a1).op (atP p1.T a1).w vsa (atP p1.T (atP p1.T a1).b).n = ua := by
     simpa using hA'
    rw [hop0, hww] at hA''
    rw [kB hkb] at h
    have hun := evP_u64 hw2.2 hU hcb
    have hu : U64 (cutV x (IntKind.u64.wrap ((atP p1.T (atP p1.T a1).b).n + ub))) := cutV_u64 (wrap_u64 _)
    refine Snd.bind (hc hu) (fun hz s hs => ?_) h
    have h1 := hc hu
    refine (op_snd f h1.good.wf h1.good.rng h1.av (upA (q := p1) h1 hvsa) (h1.val hz) hs).cast ?_
    rw [law_assoc hx (evP_u64 hw2.2 hU hvsa) hun huB, hA'']
   split at h
   ·rename_i c7
    simp only [Bool.and_eq_true] at c7
    have hkb : (atP p1.T b1).kind = 0 := by simpa using c7.1
    rw [kB hkb] at c7
    exact (zext_snd hU f hw2.1 hw2.2 hav2 hwx hf.1 hA h).cast (law_same hx huA huB c7.2).symm
   split at h
   ·rename_i c8
    simp only [Bool.and_eq_true] at c8
    have hkb : (atP p1.T b1).kind = 0 := by simpa using c8.1
    rw [kB hkb] at c8
    injection h with h; subst h
    exact (hc zero_u64).cast (law_nil hx c8.2).symm
   have same : a1 = b1 → ua = ub := fun e => by subst e; rw [hA] at hB; injection hB
   split at h
   ·rename_i c9
    simp at c9
    injection h with h; subst h
    rw [← same c9.1]
    exact (hc zero_u64).cast (law_self hx c9.2).symm
   split at h
   ·rename_i c10
    simp at c10
    rw [← same c10.1]
    exact (zext_snd hU f hw2.1 hw2.2 hav2 hwx hf.1 hA h).cast (law_and hx huA c10.2).symm
   ·injection h with h; subst h
    refine Snd.put hw2.1 hw2.2 hav2 (opT_wf' hI8.1 hI8.2 (has_i64 hw2.1 hf.1) (has_i64 hw2.1 hf.2.1)) ?_
    show ((evP p1.T vs a1).bind fun u => (evP p1.T vs b1).map fun w => doU op x u w) = _
    rw [hA, hB]
    rfl
  ·rename_i h0
   injection h with h; subst h
   exact ⟨⟨both_ext p x a b, hw2.1, hw2.2, fun e => absurd e h0⟩, hbs.1, fun e => absurd e h0⟩
theorem cond_snd : ∀ (f : Nat) {p : PS} (hw : WfP p) (hr : ∀ t ∈ p.T, t.wf) (hav : AV vs p) {cc x a b va vb : Int} {r : RS} (hva : evP p.T vs a = some va) (hvb : evP p.T vs b = some vb), condF f p cc x a b = some r → Snd vs p r (flagV (holdsU cc x va vb))
 | 0, _, _, _, _, _, _, _, _, _, _, _, _, _, h => by cases h
 | f + 1, p, hw, hr, hav, cc, x, a, b, va, vb, r, hva, hvb, h => by
  rw [condF_succ] at h
  split at h
  ·injection h with h; subst h; exact Snd.err hw hr hav 0 _ (by decide)
  rename_i hab
  have hab : hasB p.T a = true ∧ hasB p.T b = true := by simpa using hab
  split at h
  ·injection h with h; subst h; exact Snd.err hw hr hav 0 _ (by decide)
  rename_i hd
  have hd := holdsOk_yes (cc := cc) (x := x) (by simpa using hd)
  have hx := hd.1
  have hI8 : I8 cc ∧ I8 x := by unfold I8; omega
  have hw2 := both_wf hw hr (has_i64 hw hab.1) (has_i64 hw hab.2) x
  have hbs := both_snd hU hw hr hav hx hab.1 hab.2 hva hvb
  split at h
  ·rename_i h0
   have hf := both_facts hw hr hab.1 hab.2 h0
   have hbe := both_ext p x a b
   obtain ⟨ua, ub, hA, hB, hcA, hcB, huA, huB⟩ := hbs.2 h0
   have hav2 := hbs.1
   rw [← holds_cut cc hcA hcB]
   refine Snd.up hbe ?_
   generalize bothP p x a b = z at h hw2 hf hA hB hav2
   obtain ⟨p1, a1, b1, e1⟩ := z
   dsimp only at h hw2 hf hA hB hav2
   have hc : ∀ {n : Int}, U64 n → Snd vs p1 (putR p1 (constT n)) n := fun hn => Snd.put hw2.1 hw2.2 hav2 (constT_wf hn) rfl
   have kA : (atP p1.T a1).kind = 0 → (atP p1.T a1).n = ua := fun k => by
    have := ev_const (vs := vs) hw2.1 hf.1 k
    rw [hA] at this
    injection this with this
    exact this.symm
   have kB : (atP p1.T b1).kind = 0 → (atP p1.T b1).n = ub := fun k => by
    have := ev_const (vs := vs) hw2.1 hf.2.1 k
    rw [hB] at this
    injection this with this
    exact this.symm
   have hia := has_i64 hw2.1 hf.1
   have hib := has_i64 hw2.1 hf.2.1
   unfold condL at h
   dsimp only at h
   split at h
   ·rename_i c1
    injection h with h; subst h
    simp at c1
    rw [kA c1.1, kB c1.2]
    exact hc (flagV_u64 _)
   split at h
   ·rename_i c2
    injection h with h; subst h
    simp at c2
    obtain ⟨rfl, hcc⟩ := c2
    rw [hA] at hB
    injection hB with hB
    subst hB
    exact (hc (flagV_u64 _)).cast (by rw [holds_self hcc])
   split at h
   ·rename_i c3
    exact (cond_snd f hw2.1 hw2.2 hav2 hB hA h).cast (by rw [holds_turned c3])
   split at h
   ·rename_i c4
    have hcm : cc = 0 ∨ cc = 1 ∨ cc = 10 := by
     unfold swapB at c4
     simp only [Bool.and_eq_true, Bool.or_eq_true] at c4
     simpa using c4.1
    injection h with h; subst h
    refine Snd.put hw2.1 hw2.2 hav2 (condT_wf hI8.1 hI8.2 hib hia) ?_
    show ((evP p1.T vs b1).bind fun u => (evP p1.T vs a1).map fun w => flagV (holdsU cc x u w)) = _
    rw [hA, hB, holds_comm hcm x ua ub]
    rfl
   ·injection h with h; subst h
    refine Snd.put hw2.1 hw2.2 hav2 (condT_wf hI8.1 hI8.2 hia hib) ?_
    show ((evP p1.T vs a1).bind fun u => (evP p1.T vs b1).map fun w => flagV (holdsU cc x u w)) = _
    rw [hA, hB]
    rfl
  ·rename_i h0
   injection h with h; subst h
   exact ⟨⟨both_ext p x a b, hw2.1, hw2.2, fun e => absurd e h0⟩, hbs.1, fun e => absurd e h0⟩
end
end
section
open Go.RowKit
def RdsP (w : World) (e : Ending) (w' : World) : Prop := ∃ n : Int, e = .returned (.int .i64 n) ∧ Below w.heap.size w w'
theorem reads_any (x : ID) (M : MayF x) (w : World) : Calls prog 58 #[.agg x.cells.toArray] w (RdsP w) := by
 obtain ⟨k, op, wd, sz, br, d, s, off, imm⟩ := x
 have hd : 0 ≤ d ∧ d ≤ 10 := M.dst
 have hs : 0 ≤ s ∧ s ≤ 10 := M.src
 have hk : 0 ≤ k ∧ k ≤ 6 := M.kind
 clear M
 show Calls prog 58 #[.agg #[.int .i8 k, .int .i8 op, .int .i8 wd, .int .i8 sz, .bool br, .int .i8 d, .int .i8 s, .int .i64 off, .int .i64 imm]] w _
 have hdn : ¬ d < 0 := by omega
 have hsn : ¬ s < 0 := by omega
 obtain ⟨w1, hw1⟩ : ∃ z, w.alloc (.cells #[.int .i8 k, .int .i8 op, .int .i8 wd, .int .i8 sz, .bool br, .int .i8 d, .int .i8 s, .int .i64 off, .int .i64 imm] 47) = z := ⟨_, rfl⟩
 have hx : Blk w1 w.heap.size 47 #[.int .i8 k, .int .i8 op, .int .i8 wd, .int .i8 sz, .bool br, .int .i8 d, .int .i8 s, .int .i64 off, .int .i64 imm] := by rw [← hw1]; exact Blk.new w _ _
 have hb0 : Below w.heap.size w w1 := by rw [← hw1]; exact (Below.refl _ w).alloc (Nat.le_refl _) _
 have HB := Hd hb0
 have HX := Hd hx
 have HK := Hd hk
 have c0 : w1.cell? ⟨w.heap.size, 0, none⟩ = some (.int .i8 k) := hx.cell 0
 have c1 : w1.cell? ⟨w.heap.size, 1, none⟩ = some (.int .i8 op) := hx.cell 1
 have c4 : w1.cell? ⟨w.heap.size, 4, none⟩ = some (.bool br) := hx.cell 4
 have c5 : w1.cell? ⟨w.heap.size, 5, none⟩ = some (.int .i8 d) := hx.cell 5
 have c6 : w1.cell? ⟨w.heap.size, 6, none⟩ = some (.int .i8 s) := hx.cell 6
 have c8 : w1.cell? ⟨w.heap.size, 8, none⟩ = some (.int .i64 imm) := hx.cell 8
 clear hb0 hd hs hk hx
 by_cases h5 : k = 5
 ·subst h5
  go_enter func58, ntmps58
  go_wp2_with fail
  clear hw1
  go_loopw [3, 4] (fun v i wr => ∃ (j : Nat) (x : Int), i = .int .i64 (1 + j) ∧ j ≤ 6 ∧ v = .int .i64 x ∧ wr = w1) (fun _ i _ => (7 - intOf i).toNat)
  case atStart => exact ⟨0, 0, by go_num, by omega, rfl, rfl⟩
  case round =>
   obtain ⟨j, x, rfl, hj, rfl, rfl⟩ := hrel
   go_wp2_with fail
   refine (rargs_any imm _).mono ?_
   rintro e w' ⟨rfl, rfl⟩
   have ha := argsN_bd imm
   have hjw : IntKind.i64.wrap (1 + (j : Int) + 1) = 1 + ((j + 1 : Nat) : Int) := by rw [IntKind.wrap_i64]; omega
   by_cases hlt : 1 + (j : Int) ≤ argsN imm
   ·go_wp2
    go_roundw
    case measure => simp [intOf]; omega
    case rel => exact ⟨j + 1, _, by first | rw [hjw] | go_num, by omega, rfl, by first | rfl | trivial⟩
   ·go_wp2
    go_ret
    exact ⟨_, rfl, HB.out⟩
 by_cases h0 : k = 0
 ·subst h0
  cases br
  all_goals
   cases ho : decide (op = 11)
   all_goals
    have ho2 : (op == 11) = _ := ho
    go_enter func58, ntmps58
    go_wp2_with fail
    go_ret
    exact ⟨_, rfl, HB.out⟩
 by_cases h1 : k = 1
 ·subst h1
  go_enter func58, ntmps58
  go_wp2_with fail
  go_ret
  exact ⟨_, rfl, HB.out⟩
 by_cases h2 : k = 2
 ·subst h2
  go_enter func58, ntmps58
  go_wp2_with fail
  go_quiet (fail)
  go_wp2_with fail
  go_ret
  exact ⟨_, rfl, HB.out.os, HB.out.tape, HB.out.output, HB.out.size, HB.out.block⟩
 by_cases h3 : k = 3
 ·subst h3
  cases br
  all_goals
   go_enter func58, ntmps58
   go_wp2_with fail
   go_ret
   exact ⟨_, rfl, HB.out⟩
 by_cases h4 : k = 4
 ·subst h4
  go_enter func58, ntmps58
  go_wp2_with fail
  go_ret
  exact ⟨_, rfl, HB.out⟩
 obtain rfl : k = 6 := by have := HK.out; omega
 go_enter func58, ntmps58
 go_wp2_with fail
 go_ret
 exact ⟨_, rfl, HB.out⟩
end
end Go.Proofs.YtepagfkkjlbipaaGreat
