/-
  Parts of the proof of SymbcSound. Conditions: those written in each statement.
-/
import Derived.Test.YtepagfkkjlbipaaGreatKbd
import Derived.Test.YtepagfkkjlbipaaGreatWu
import Derived.Test.YtepagfkkjlbipaaGreatKbe
set_option linter.unusedVariables false
set_option linter.unusedSimpArgs false
set_option maxHeartbeats 64000000
set_option maxRecDepth 100000
namespace Go.Proofs.YtepagfkkjlbipaaGreat
open Tryz
section
open Go.RowKit
section
variable {P : Program}
theorem wpList_push2 {ops : Array Oper} {rest : List Oper} {o1 o2 : Oper} {a : Act} {w : World} {Q : Exit → Act → World → Prop} (hg1 : o1.guard = none) (hg2 : o2.guard = none) (t e : TypeId) (x s y : Operand)
  (ho1 : o1.op = .buildSlice t 1 #[(0, x)]) (ho2 : o2.op = .call { callee := .builtin .append, args := #[s, y], argTypes := #[t, t] })
  (base size bytes : Nat) (i0 : TypeInfo) (z v sv : Value) (cs xs : List Value) (n : Nat) (ht : P.underlying t = some (.slice e)) (hi : P.info? e = some i0) (hz : i0.zero = some z) (hs : i0.size = size) (hb : i0.bytes = bytes)
  (hzs : z.cells.size = size) (h0 : 0 < size) (hs0 : size ≤ 1024) (hx : a.eval x = v) (hcs : v.cells = cs.toArray) (hvs : cs.length = size) (h1 : ∀ u ∈ cs, u.oneCell' = true)
  (hown : w.ownsRow base e size sv n xs) (hbase : base ≤ w.heap.size) (h63 : n + 1 ≤ maxLen) (hbytes : (n + 1) * bytes ≤ 140737488355328)
  (hsv : (a.put o1.dst (.slice (some ⟨w.heap.size, 0, none⟩) 1 1)).eval s = sv) (hy : (a.put o1.dst (.slice (some ⟨w.heap.size, 0, none⟩) 1 1)).eval y = .slice (some ⟨w.heap.size, 0, none⟩) 1 1)
  (h : ∀ v' w' g, w.heap.size ≤ g → w'.ownsRow base e size v' (n + 1) (xs ++ cs) → Below base w w' → w.grownBy w' sv.ownBlock → (∀ b, v'.ownBlock = some b → sv.ownBlock = some b ∨ w.heap.size ≤ b) → wpList P ops Q rest ((a.put o1.dst (.slice (some ⟨g, 0, none⟩) 1 1)).put o2.dst v') w') : wpList P ops Q (o1 :: o2 :: rest) a w := by
 subst hs hb
 refine wpList_plain hg1 fun K hK => ?_
 unfold Oper.wp execOp
 have hrun := run_buildSlice_one (P := P) w t e i0 z v ht hi hz hs0 h0 (by rw [hcs]; simpa using hvs)
 simp only [ho1, Sem.run_bind, List.map_toArray, List.map_cons, List.map_nil, hx, hrun, Result.andThen_ok, Sem.run_pure]
 refine hK _ _ ?_
 have hown' := hown.alloc (Obj.cells v.cells e)
 have hnew : Reads (w.alloc (.cells v.cells e)) (w.heap.size + 1) i0.size (some ⟨w.heap.size, 0, none⟩) 1 cs := by
  refine ⟨by omega, fun _ => ⟨_, rfl, Nat.lt_succ_self _, fun j u hu => ?_⟩⟩
  rw [show (⟨w.heap.size, 0, none⟩ : Addr).add j = ⟨w.heap.size, j, none⟩ from by unfold Addr.add; split <;> simp_all]
  rw [(Blk.new w e v.cells).cell j, hcs]
  simpa using hu
 refine wpList_append_any _ hg2 s y t ho2 base e i0 z i0.size i0.bytes ht hi hz rfl rfl hzs h0 sv n xs hsv hown' _ _ 1 1 cs hy hnew h1 h63 hbytes (by simp; omega) fun v' w' q1 q2 q3 => ?_
 have hgr : w.grownBy w' sv.ownBlock := (World.grownBy_alloc w _ sv.ownBlock).trans q2
 exact h v' w' _ (Nat.le_refl _) q1 ((Below.refl _ _).grown hgr hbase (fun g hg => by
  rcases hown.2 with ⟨hsv0, _⟩ | ⟨g', cap, cur, hsv0, hg', _⟩
  ·rw [hsv0] at hg; simp [Value.ownBlock] at hg
  ·rw [hsv0] at hg; simp [Value.ownBlock] at hg; omega)) hgr fun b hb => by
  rcases q3 with e | e
  ·exact .inl (e ▸ hb)
  ·rw [e] at hb
   injection hb with hb
   simp at hb
   exact .inr (by omega)
end
/-! ### a way goes on -/
theorem Path.snoc {l : List ID} : ∀ {q : List (Int × List Int)} {T : List TrE} {i : Nat} {r : List Int}, Path l (q ++ [((i : Int), r)]) T → ∀ {x : ID} {i' : Nat} {r' : List Int} {tr : List TrE} {y : ID}, l[i]? = some x → MStep x i r i' r' tr → l[i']? = some y → RegOk r' → Path l (q ++ [((i : Int), r)] ++ [((i' : Int), r')]) (T ++ tr) := by
 intro q
 induction q with
 | nil =>
  intro T i r h x i' r' tr y hx hs hy hr'
  obtain ⟨i0, x0, e0, hx0, hr0⟩ := h.head
  have e0 : (i : Int) = (i0 : Int) := e0
  cases h with
  | one i1 x1 r1 hx1 hr1 =>
   have := Path.cons i x r (i' : Int) r' [] tr [] hx hr0 hs (.one i' y r' hy hr')
   simpa using this
 | cons p q ih =>
  intro T i r h x i' r' tr y hx hs hy hr'
  obtain ⟨j, z, e1, hz, hrz⟩ := h.head
  obtain ⟨p1, p2⟩ := p
  dsimp only at e1 hrz
  subst e1
  cases q with
  | nil =>
   obtain ⟨j', z', tr', T', e1, hz', _, hs', rfl, hp'⟩ := h.next
   have e1 : (j : Int) = (j' : Int) := e1
   obtain rfl : j = j' := by omega
   have := ih (T := T') (i := i) (r := r) hp' hx hs hy hr'
   have h2 := Path.cons j z' p2 (i : Int) r ([] ++ [((i' : Int), r')]) tr' (T' ++ tr) hz' hrz hs' (by simpa using this)
   simpa [List.append_assoc] using h2
  | cons p' q' =>
   obtain ⟨j', z', tr', T', e1, hz', _, hs', rfl, hp'⟩ := h.next
   have e1 : (j : Int) = (j' : Int) := e1
   obtain rfl : j = j' := by omega
   have := ih (T := T') (i := i) (r := r) hp' hx hs hy hr'
   obtain ⟨p1', p2'⟩ := p'
   have h2 := Path.cons j z' p2 p1' p2' (q' ++ [((i : Int), r)] ++ [((i' : Int), r')]) tr' (T' ++ tr) hz' hrz hs' (by simpa using this)
   simpa [List.append_assoc] using h2
theorem step_in {l : List ID} (h : PrF l) {i : Nat} {x : ID} (hx : l[i]? = some x) {r : List Int} {i' : Int} {r' : List Int} {tr : List TrE} (S : MStep x i r i' r' tr) : ∃ k y, i' = ((k : Nat) : Int) ∧ l[k]? = some y := by
 have hi : i < l.length := (List.getElem?_eq_some_iff.1 hx).1
 have flat : ¬ (x.kind = 4 ∨ x.kind = 6) → i + 1 < l.length := fun hk => by
  rcases Nat.lt_or_ge (i + 1) l.length with q | q
  ·exact q
  ·exfalso
   have e : i = l.length - 1 := by omega
   have hl := h.last
   unfold lastK at hl
   rw [← e, hx] at hl
   exact hk hl
 have next : ¬ (x.kind = 4 ∨ x.kind = 6) → i' = (i : Int) + 1 → ∃ k y, i' = ((k : Nat) : Int) ∧ l[k]? = some y := fun hk e => ⟨i + 1, l[i + 1]'(flat hk), by omega, List.getElem?_eq_getElem (flat hk)⟩
 have jump : (x.kind = 3 ∨ x.kind = 4) → i' = tgtN i x → ∃ k y, i' = ((k : Nat) : Int) ∧ l[k]? = some y := fun hk e => by
  obtain ⟨_, t2, t3⟩ := tgt_of h hx hk
  exact ⟨(tgtN i x).toNat, l[(tgtN i x).toNat]'(by omega), by omega, List.getElem?_eq_getElem (by omega)⟩
 rcases S with ⟨k, e, _⟩ | ⟨k, e, _⟩ | ⟨k, e, _⟩ | ⟨k, e, _⟩ | ⟨k, e, _⟩ | ⟨k, e, _⟩
 ·exact next (by omega) e
 ·exact next (by omega) e
 ·exact next (by omega) e
 ·split at e
  ·exact jump (.inl k) e
  ·exact next (by omega) e
 ·exact jump (.inr k) e
 ·exact next (by omega) e
/-! ### what it is ahead of a step, in memory -/
structure SnD where
 regs : List Int
 st : Int
 fr : List Int
def SnD.ok (s : SnD) : Prop := s.regs.length = 11 ∧ s.fr.length = 64
def snC (s : SnD) : List Value := s.regs.map (Value.int .u64) ++ (.int .i64 s.st :: u8C s.fr)
theorem snC_len {s : SnD} (h : s.ok) : (snC s).length = 76 := by
 unfold snC u8C
 simp only [List.length_append, List.length_cons, List.length_map, h.1, h.2]
theorem snC_one (s : SnD) : ∀ u ∈ snC s, u.oneCell' = true := by
 intro u hu
 unfold snC u8C at hu
 simp only [List.mem_append, List.mem_cons, List.mem_map] at hu
 rcases hu with ⟨x, _, rfl⟩ | rfl | ⟨x, _, rfl⟩ <;> rfl
theorem MdB.snap {w : World} {bm : Nat} {c : Int} {pl m : Value} {rs : List Int} {st : Int} {fr : List Int} {pc : Int} {an tr : Value} (h : MdB w bm c pl m rs st fr pc an tr) : ∀ j u, (snC ⟨rs, st, fr⟩)[j]? = some u → w.cell? ((⟨bm, 3, none⟩ : Addr).add j) = some u := by
 intro j u hu
 rw [addr_add]
 refine h.cell ?_
 have e : mdC c pl m rs st fr pc an tr = [.int .i64 c, pl, m] ++ (snC ⟨rs, st, fr⟩ ++ [.int .i64 pc, an, tr]) := by unfold mdC snC; simp
 rw [e, List.getElem?_append_right (by simp), List.getElem?_append_left (by have := (List.getElem?_eq_some_iff.1 hu).1; simp; omega)]
 simpa using hu
def zOut : List Value := [.int .i8 0, .int .u64 0, .slice none 0 0, .slice none 0 0, .int .i64 0]
structure SnOk (l : List ID) (atv snv trv : Value) (kd left : Int) (q rest : List (Int × List Int)) (T : List TrE) (fuel : Int) (w : World) : Prop where
 path : Path l (q ++ rest) T
 few : rest.length ≤ 1
 fin : kd = 1 → rest = [] ∧ ∃ i : Nat, ∃ x r, q.getLast? = some ((i : Int), r) ∧ l[i]? = some x ∧ x.kind = 6
 len : (q.length : Int) ≤ max 0 fuel
 at_ : ∃ A c, atv = .slice A q.length c ∧ q.length ≤ c ∧ Reads w w.heap.size 1 A q.length (q.map fun p => Value.int .i64 p.1)
 sn : ∃ A c, ∃ ss : List SnD, snv = .slice A q.length c ∧ q.length ≤ c ∧ ss.map (·.regs) = q.map (·.2) ∧ (∀ s ∈ ss, s.ok) ∧ Reads w w.heap.size 76 A q.length (ss.flatMap snC)
 tr : TrAt w (fun _ => False) trv T
def SnP (c : Int) (l : List ID) (fuel : Int) (w : World) (e : Ending) (w' : World) : Prop := Below w.heap.size w w' ∧
 ((∃ er, e = .returned (.tuple #[.slice none 0 0, .slice none 0 0, .agg zOut.toArray, .int .i64 er]) ∧ (er != 0) = true) ∨
  (∃ atv snv trv Ac nc cc kd r0 left q rest T, e = .returned (.tuple #[atv, snv, .agg #[.int .i8 kd, .int .u64 r0, .slice Ac nc cc, trv, .int .i64 left], .int .i64 0]) ∧ (chkP c l).2 = 0 ∧ SnOk l atv snv trv kd left q rest T fuel w'))
end
section
open Go.RowKit
def XS (bo b1 : Nat) (av sv : Value) (b : Nat) : Prop := b = bo ∨ b = b1 ∨ av.ownBlock = some b ∨ sv.ownBlock = some b
structure LpS (l : List ID) (B0 bm bq bo b1 : Nat) (G : Nat → Prop) (c : Int) (A : Option Addr) (n cap : Nat) (rs : List Int) (k : Int) (la : List Int) (T : List TrE) (qa : List Int) (ss : List SnD) (av sv : Value) (w : World) : Prop where
 md : MdM B0 bm bq (XS bo b1 av sv) G c A n cap rs k la T w
 ow1 : w.ownsRow B0 3 1 av qa.length (qa.map (Value.int .i64))
 ow2 : w.ownsRow B0 86 76 sv ss.length (ss.flatMap snC)
 n1 : ∀ b, av.ownBlock = some b → b ≠ bo ∧ b ≠ b1 ∧ sv.ownBlock ≠ some b
 n2 : ∀ b, sv.ownBlock = some b → b ≠ bo ∧ b ≠ b1
 ob : Blk w bo 34 zOut.toArray
 o1 : Blk w b1 34 zOut.toArray
 ins : InsF w (fun b => B0 ≤ b) A n l
 low : B0 ≤ w.heap.size
section
variable {l : List ID} {B0 bm bq bo b1 : Nat} {G G' : Nat → Prop} {c : Int} {A : Option Addr} {n cap : Nat} {rs rs' : List Int} {k k' : Int} {la la' : List Int} {T T' : List TrE} {qa : List Int} {ss : List SnD} {av sv av' sv' : Value} {w w' : World}
theorem MdM.xs {X : Nat → Prop} (h : MdM B0 bm bq X G c A n cap rs k la T w) {b : Nat} (hb : X b) : B0 ≤ b ∧ b < w.heap.size ∧ ¬ G b := by
 obtain ⟨_, _, _, _, _, _, hR⟩ := h.box
 exact hR.xs b hb
theorem MdM.lowG {X : Nat → Prop} (h : MdM B0 bm bq X G c A n cap rs k la T w) {b : Nat} (hb : G b) : B0 ≤ b ∧ b < w.heap.size := by
 obtain ⟨_, _, _, _, _, _, hR⟩ := h.box
 exact hR.low b hb
theorem LpS.push1 (h : LpS l B0 bm bq bo b1 G c A n cap rs k la T qa ss av sv w) {x : Int} (O : w'.ownsRow B0 3 1 av' (qa.length + 1) (qa.map (Value.int .i64) ++ [.int .i64 x])) (P : w.grownBy w' av.ownBlock) (Q : ∀ b, av'.ownBlock = some b → av.ownBlock = some b ∨ w.heap.size ≤ b) :
  LpS l B0 bm bq bo b1 G c A n cap rs k la T (qa ++ [x]) ss av' sv w' := by
 have hc : Chg (fun b => av.ownBlock = some b) w w' := Chg.of_grown P (fun b e => .inl e)
 refine ⟨h.md.chgX hc (fun b e => .inr (.inr (.inl e))) (fun b z => ?_) (fun b z => ?_), ?_, hc.own h.ow2 (fun b e e2 => (h.n1 b e2).2.2 e), fun b e => ?_, h.n2, hc.blk h.ob (fun e => (h.n1 bo e).1 rfl), hc.blk h.o1 (fun e => (h.n1 b1 e).2.1 rfl), h.ins.chg hc (fun b e => .inl (own_ge h.ow1 b e).1) (fun b e => .inl e), Nat.le_trans h.low hc.size⟩
 ·rcases z with z | z | z | z
  ·exact .inl (.inl z)
  ·exact .inl (.inr (.inl z))
  ·exact (Q b z).imp (fun z => .inr (.inr (.inl z))) id
  ·exact .inl (.inr (.inr (.inr z)))
 ·rcases z with z | z | z | z
  ·exact Nat.lt_of_lt_of_le (h.md.xs (.inl z)).2.1 hc.size
  ·exact Nat.lt_of_lt_of_le (h.md.xs (.inr (.inl z))).2.1 hc.size
  ·exact (own_ge O b z).2
  ·exact Nat.lt_of_lt_of_le (own_ge h.ow2 b z).2 hc.size
 ·rw [List.length_append, List.map_append]; exact O
 ·rcases Q b e with e2 | e2
  ·exact h.n1 b e2
  ·have h1 := (h.md.xs (b := bo) (.inl rfl)).2.1
   have h2 := (h.md.xs (b := b1) (.inr (.inl rfl))).2.1
   exact ⟨by omega, by omega, fun e3 => by have := (own_ge h.ow2 b e3).2; omega⟩
theorem LpS.push2 (h : LpS l B0 bm bq bo b1 G c A n cap rs k la T qa ss av sv w) {x : SnD} (O : w'.ownsRow B0 86 76 sv' (ss.length + 1) (ss.flatMap snC ++ snC x)) (P : w.grownBy w' sv.ownBlock) (Q : ∀ b, sv'.ownBlock = some b → sv.ownBlock = some b ∨ w.heap.size ≤ b) :
  LpS l B0 bm bq bo b1 G c A n cap rs k la T qa (ss ++ [x]) av sv' w' := by
 have hc : Chg (fun b => sv.ownBlock = some b) w w' := Chg.of_grown P (fun b e => .inl e)
 refine ⟨h.md.chgX hc (fun b e => .inr (.inr (.inr e))) (fun b z => ?_) (fun b z => ?_), hc.own h.ow1 (fun b e e2 => (h.n1 b e).2.2 e2), ?_, fun b e => ⟨(h.n1 b e).1, (h.n1 b e).2.1, fun e3 => ?_⟩, fun b e => ?_, hc.blk h.ob (fun e => (h.n2 bo e).1 rfl), hc.blk h.o1 (fun e => (h.n2 b1 e).2 rfl), h.ins.chg hc (fun b e => .inl (own_ge h.ow2 b e).1) (fun b e => .inl e), Nat.le_trans h.low hc.size⟩
 ·rcases z with z | z | z | z
  ·exact .inl (.inl z)
  ·exact .inl (.inr (.inl z))
  ·exact .inl (.inr (.inr (.inl z)))
  ·exact (Q b z).imp (fun z => .inr (.inr (.inr z))) id
 ·rcases z with z | z | z | z
  ·exact Nat.lt_of_lt_of_le (h.md.xs (.inl z)).2.1 hc.size
  ·exact Nat.lt_of_lt_of_le (h.md.xs (.inr (.inl z))).2.1 hc.size
  ·exact Nat.lt_of_lt_of_le (own_ge h.ow1 b z).2 hc.size
  ·exact (own_ge O b z).2
 ·rw [List.length_append, List.flatMap_append]
  simpa using O
 ·rcases Q b e3 with e2 | e2
  ·exact (h.n1 b e).2.2 e2
  ·have := (own_ge h.ow1 b e).2; omega
 ·rcases Q b e with e2 | e2
  ·exact h.n2 b e2
  ·have h1 := (h.md.xs (b := bo) (.inl rfl)).2.1
   have h2 := (h.md.xs (b := b1) (.inr (.inl rfl))).2.1
   omega
theorem LpS.step (h : LpS l B0 bm bq bo b1 G c A n cap rs k la T qa ss av sv w) (m : MdG B0 bm bq (XS bo b1 av sv) G G' c A n cap rs' k' la' T' w w') : LpS l B0 bm bq bo b1 G' c A n cap rs' k' la' T' qa ss av sv w' :=
 ⟨m.at_, m.chg.own h.ow1 (fun b e z => (h.md.xs (b := b) (.inr (.inr (.inl e)))).2.2 z), m.chg.own h.ow2 (fun b e z => (h.md.xs (b := b) (.inr (.inr (.inr e)))).2.2 z), h.n1, h.n2, m.chg.blk h.ob (fun z => (h.md.xs (b := bo) (.inl rfl)).2.2 z), m.chg.blk h.o1 (fun z => (h.md.xs (b := b1) (.inr (.inl rfl))).2.2 z), h.ins.chg m.chg (fun b z => .inl (h.md.lowG z).1) (fun b e => .inl e), Nat.le_trans h.low m.chg.size⟩
theorem LpS.insG (h : LpS l B0 bm bq bo b1 G c A n cap rs k la T qa ss av sv w) : InsF w G A n l := h.ins.chg (H := fun _ => False) (Chg.refl _ _) (fun b e => e.elim) (fun b z => .inl (h.md.lowG z).1)
theorem LpS.start (h : MdM B0 bm bq (fun _ => False) G c A n cap rs k la [] w) (hi : InsF w (fun b => B0 ≤ b) A n l) (hl : B0 ≤ w.heap.size) (hb : Below w.heap.size w w') (ho : Blk w' w.heap.size 34 zOut.toArray) (h1 : Blk w b1 34 zOut.toArray) (hg : ¬ G b1) (h1b : B0 ≤ b1) : LpS l B0 bm bq w.heap.size b1 G c A n cap rs k la [] [] [] (.slice none 0 0) (.slice none 0 0) w' := by
 have no : ∀ b : Nat, (Value.slice none 0 0).ownBlock ≠ some b := fun b e => by simp [Value.ownBlock] at e
 have h2 : MdM B0 bm bq (fun b => b = b1) G c A n cap rs k la [] w := by
  obtain ⟨st, fr, an, tr, F, hB, hR⟩ := h.box
  obtain ⟨q, q1, q2, q3⟩ := hR.row
  have q4 : q = [] := List.map_eq_nil_iff.1 q2
  exact ⟨⟨st, fr, an, tr, F, hB, hR.mem, hR.sub, ⟨q, q1, q2, fun p hp => by rw [q4] at hp; cases hp⟩, hR.tro, hR.ans, hR.own, hR.low, hR.u64, fun b z => by subst z; exact ⟨h1b, h1.lt, hg⟩⟩, h.reg⟩
 refine ⟨h2.chgX (H := fun _ => False) (Chg.of_below hb) (fun b z => z.elim) (fun b z => ?_) (fun b z => ?_), ⟨rfl, .inl ⟨rfl, rfl⟩⟩, ⟨rfl, .inl ⟨rfl, rfl⟩⟩, fun b e => (no b e).elim, fun b e => (no b e).elim, ho, h1.below hb h1.lt, hi.chg (Chg.of_below (F := fun _ => False) hb) (fun b z => z.elim) (fun b z => .inl z), Nat.le_trans hl hb.size⟩
 ·rcases z with z | z | z | z
  ·exact .inr (Nat.le_of_eq z.symm)
  ·exact .inl z
  ·exact (no b z).elim
  ·exact (no b z).elim
 ·rcases z with z | z | z | z
  ·rw [z]; exact ho.lt
  ·rw [z]; exact (h1.below hb h1.lt).lt
  ·exact (no b z).elim
  ·exact (no b z).elim
theorem MdM.tr (h : MdM B0 bm bq (XS bo b1 av sv) G c A n cap rs k la T w) : ∃ st fr an tr, MdB w bm c (.slice A n cap) (.pointer (some ⟨bq, 0, none⟩)) rs st fr k an tr ∧ TrAt w (fun b => b = bo ∨ b = b1) tr T ∧ MemAt w B0 G bq := by
 obtain ⟨st, fr, an, tr, F, hB, hR⟩ := h.box
 obtain ⟨q, h1, h2, h3⟩ := hR.row
 obtain ⟨A1, c1, e1, k1, r1⟩ := ReadsF.of_own (F := fun b => b = bo ∨ b = b1) h1 (fun b e z => (hR.xs b (z.elim .inl (fun z => .inr (.inl z)))).2.2 (hR.tro b e).1)
 refine ⟨st, fr, an, tr, hB, ⟨A1, c1, q, e1, k1, h2, r1, fun p hp => (h3 p hp).chg (H := fun _ => False) (Chg.refl _ _) (fun b z => z.elim) (fun b z => .inl (.inr (.inr (.inr (z.elim .inl (fun z => .inr (.inl z)))))))⟩, ?_⟩
 obtain ⟨vc, vx, vf, nx, R⟩ := hR.mem.ex
 exact ⟨⟨vc, vx, vf, nx, { R with cb := fun b e => ⟨(hR.sub b (R.cb b e).1).1, (R.cb b e).2⟩, xb := fun b e => ⟨(hR.sub b (R.xb b e).1).1, (R.xb b e).2⟩, fb := fun b e => ⟨(hR.sub b (R.fb b e).1).1, (R.fb b e).2⟩, own := (hR.sub bq R.own).1 }⟩, fun b z => hR.low b z⟩
end
structure PoS (bm bo b1 bq B0 : Nat) (G : Nat → Prop) (c : Int) (A : Option Addr) (n cap : Nat) (rs : List Int) (k : Int) (T : List TrE) (qa : List Int) (ss : List SnD) (A1 A2 : Option Addr) (st : Int) (fr : List Int) (an tr : Value) (cs : List Value) (w : World) : Prop where
 mb : MdB w bm c (.slice A n cap) (.pointer (some ⟨bq, 0, none⟩)) rs st fr k an tr
 mm : MemAt w B0 G bq
 t : TrAt w (fun b => b = bo ∨ b = b1) tr T
 r1 : ReadsF w (fun b => b = bo ∨ b = b1) 1 A1 qa.length (qa.map (Value.int .i64))
 r2 : ReadsF w (fun b => b = bo ∨ b = b1) 76 A2 ss.length (ss.flatMap snC)
 ob : Blk w bo 34 cs.toArray
 o1 : Blk w b1 34 zOut.toArray
 ng : ¬ G bo ∧ bm ≠ bo ∧ bo ≠ b1
section
variable {l : List ID} {B0 bm bq bo b1 : Nat} {G : Nat → Prop} {c : Int} {A A1 A2 : Option Addr} {n cap : Nat} {rs : List Int} {k : Int} {la : List Int} {T : List TrE} {qa : List Int} {ss : List SnD} {av sv an tr : Value} {st : Int} {fr : List Int} {cs : List Value} {w w' : World}
theorem LpS.post (h : LpS l B0 bm bq bo b1 G c A n cap rs k la T qa ss av sv w) (hne : bo ≠ b1) : ∃ A1 c1 A2 c2 st fr an tr, av = .slice A1 qa.length c1 ∧ qa.length ≤ c1 ∧ sv = .slice A2 ss.length c2 ∧ ss.length ≤ c2 ∧ PoS bm bo b1 bq B0 G c A n cap rs k T qa ss A1 A2 st fr an tr zOut w := by
 obtain ⟨st, fr, an, tr, hB, hT, hM⟩ := h.md.tr
 obtain ⟨A1, c1, e1, k1, r1⟩ := ReadsF.of_own (F := fun b => b = bo ∨ b = b1) h.ow1 (fun b e z => z.elim (fun z => (h.n1 b e).1 z) (fun z => (h.n1 b e).2.1 z))
 obtain ⟨A2, c2, e2, k2, r2⟩ := ReadsF.of_own (F := fun b => b = bo ∨ b = b1) h.ow2 (fun b e z => z.elim (fun z => (h.n2 b e).1 z) (fun z => (h.n2 b e).2 z))
 have hbm : G bm := by
  obtain ⟨_, _, _, _, _, _, hR⟩ := h.md.box
  exact hR.own
 exact ⟨A1, c1, A2, c2, st, fr, an, tr, e1, k1, e2, k2, hB, hM, hT, r1, r2, h.ob, h.o1, (h.md.xs (.inl rfl)).2.2, fun e => (h.md.xs (b := bo) (.inl rfl)).2.2 (e ▸ hbm), hne⟩
theorem PoS.below (h : PoS bm bo b1 bq B0 G c A n cap rs k T qa ss A1 A2 st fr an tr cs w) (hb : Below w.heap.size w w') : PoS bm bo b1 bq B0 G c A n cap rs k T qa ss A1 A2 st fr an tr cs w' :=
 ⟨⟨h.mb.blk.below hb h.mb.blk.lt, h.mb.len, h.mb.frl⟩, h.mm.below hb, h.t.chg (H := fun _ => False) (Chg.of_below hb) (fun b z => z.elim) (fun b z => .inl z), h.r1.chg (H := fun _ => False) (Chg.of_below hb) (fun b z => z.elim) (fun b z => .inl z), h.r2.chg (H := fun _ => False) (Chg.of_below hb) (fun b z => z.elim) (fun b z => .inl z), h.ob.below hb h.ob.lt, h.o1.below hb h.o1.lt, h.ng⟩
theorem PoS.put (h : PoS bm bo b1 bq B0 G c A n cap rs k T qa ss A1 A2 st fr an tr cs w) (i : Nat) (v : Value) : PoS bm bo b1 bq B0 G c A n cap rs k T qa ss A1 A2 st fr an tr (cs.set i v) (w.setCell ⟨bo, i, none⟩ v) := by
 have hc : Chg (fun b => b = bo) w (w.setCell ⟨bo, i, none⟩ v) := chg_setCell (b := bo) rfl _ rfl
 refine ⟨⟨hc.blk h.mb.blk h.ng.2.1, h.mb.len, h.mb.frl⟩, h.mm.chg hc (fun b z e => h.ng.1 (e ▸ z)), h.t.chg hc (fun b z => .inl (.inl z)) (fun b z => .inl z), h.r1.chg hc (fun b z => .inl (.inl z)) (fun b z => .inl z), h.r2.chg hc (fun b z => .inl (.inl z)) (fun b z => .inl z), ?_, hc.blk h.o1 (fun e => h.ng.2.2 e.symm), h.ng⟩
 have := h.ob.set_ i v
 rwa [List.setIfInBounds_toArray] at this
end
theorem Path.last_in {l : List ID} : ∀ {q : List (Int × List Int)} {T : List TrE} {i : Nat} {r : List Int}, Path l (q ++ [((i : Int), r)]) T → ∃ x, l[i]? = some x ∧ RegOk r := by
 intro q
 induction q with
 | nil =>
  intro T i r h
  obtain ⟨i0, x0, e0, hx0, hr0⟩ := h.head
  have e0 : (i : Int) = (i0 : Int) := e0
  obtain rfl : i = i0 := by omega
  exact ⟨x0, hx0, hr0⟩
 | cons p q ih =>
  intro T i r h
  cases q with
  | nil =>
   obtain ⟨_, _, _, _, _, _, _, _, _, hp⟩ := h.next
   exact ih (i := i) (r := r) hp
  | cons p' q' =>
   obtain ⟨_, _, _, _, _, _, _, _, _, hp⟩ := h.next
   exact ih (i := i) (r := r) hp
theorem mstep_tr {x : ID} {i : Int} {r : List Int} {i' : Int} {r' : List Int} {tr : List TrE} (S : MStep x i r i' r' tr) : tr.length ≤ 1 := by
 rcases S with ⟨_, _, _, rfl⟩ | ⟨_, _, _, rfl⟩ | ⟨_, _, _, rfl⟩ | ⟨_, _, _, rfl⟩ | ⟨_, _, _, rfl⟩ | ⟨_, _, _, _, _, rfl⟩ <;> simp
theorem one_i64 {k : Int} : ∀ u ∈ [Value.int .i64 k], u.oneCell' = true := by
 intro u hu
 obtain rfl : u = .int .i64 k := by simpa using hu
 rfl
theorem SnOk.mk2 {l : List ID} {trv : Value} {kd left : Int} {q rest : List (Int × List Int)} {T : List TrE} {fuel : Int} {w : World} {A1 A2 : Option Addr} {c1 c2 : Nat} {ss : List SnD} (hp : Path l (q ++ rest) T) (hr : rest.length ≤ 1) (hf : kd = 1 → rest = [] ∧ ∃ i : Nat, ∃ x r, q.getLast? = some ((i : Int), r) ∧ l[i]? = some x ∧ x.kind = 6) (hl : (q.length : Int) ≤ max 0 fuel) (hc : q.length ≤ c1 ∧ q.length ≤ c2) (hq : ss.map (·.regs) = q.map (·.2)) (hs : ∀ s ∈ ss, s.ok) (hls : ss.length = q.length) (r1 : Reads w w.heap.size 1 A1 (q.map (·.1)).length ((q.map (·.1)).map (Value.int .i64))) (r2 : Reads w w.heap.size 76 A2 ss.length (ss.flatMap snC)) (t : TrAt w (fun _ => False) trv T) : SnOk l (.slice A1 q.length c1) (.slice A2 q.length c2) trv kd left q rest T fuel w := by
 rw [List.length_map, List.map_map] at r1
 rw [hls] at r2
 exact ⟨hp, hr, hf, hl, ⟨A1, c1, rfl, hc.1, r1⟩, ⟨A2, c2, ss, rfl, hc.2, hq, hs, r2⟩, t⟩
end
section
open Go.RowKit
theorem sn_cell {w : World} {B m : Nat} {A : Option Addr} {ss : List SnD} (h : Reads w B 76 A m (ss.flatMap snC)) (ho : ∀ s ∈ ss, s.ok) {k : Nat} {s : SnD} (hs : ss[k]? = some s) (hk : k < m) : ∃ ad, A = some ad ∧ ad.block < B ∧ ∀ i, i < 11 → w.cell? ((ad.add (k * 76)).add i) = some (.int .u64 (s.regs.getD i 0)) := by
 obtain ⟨ad, e, hb, hc⟩ := h.2 (by omega)
 refine ⟨ad, e, hb, fun i hi => ?_⟩
 rw [add_of_add]
 have hso := ho s (List.mem_of_getElem? hs)
 refine hc _ _ (flat_at snC 76 ss (fun z hz => snC_len (ho z hz)) k i s _ hs ?_)
 unfold snC
 rw [List.getElem?_append_left (by rw [List.length_map, hso.1]; exact hi), List.getElem?_map, List.getD_eq_getElem?_getD, List.getElem?_eq_getElem (by have := hso.1; omega)]
 rfl
structure EndW (w : World) (base g : Nat) (F : Nat → Prop) (p : PS) (Ab : Option Addr) (nb : Nat) (bl : List BD) (gv : Nat) (V : List Int) (A1 : Option Addr) (m1 : Nat) (pl : List Int) (A2 : Option Addr) (m2 : Nat) (ss : List SnD) : Prop where
 pool : PoolAt w base F g p
 blks : BksAt w w.heap.size Ab nb bl
 nbl : nb < 1000
 vars : Reads w w.heap.size 1 (some ⟨gv, 0, none⟩) 260 (V.map (Value.int .u64))
 vlen : V.length = 260
 vu : ∀ v ∈ V, U64 v
 at_ : Reads w w.heap.size 1 A1 m1 (pl.map (Value.int .i64))
 few : m1 < 1000
 sn : Reads w w.heap.size 76 A2 m2 (ss.flatMap snC)
 ok : ∀ s ∈ ss, s.ok
 m2e : m2 = m1
theorem EndW.below {w w' : World} {base g gv m1 m2 nb : Nat} {F : Nat → Prop} {p : PS} {Ab A1 A2 : Option Addr} {bl : List BD} {V pl : List Int} {ss : List SnD} (h : EndW w base g F p Ab nb bl gv V A1 m1 pl A2 m2 ss) (hb : Below w.heap.size w w') : EndW w' base g F p Ab nb bl gv V A1 m1 pl A2 m2 ss :=
 { h with pool := h.pool.below hb, blks := h.blks.up hb hb.size, vars := (h.vars.below hb).more hb.size, at_ := (h.at_.below hb).more hb.size, sn := (h.sn.below hb).more hb.size }
theorem EndW.eval {w : World} {base g gv m1 m2 nb : Nat} {F : Nat → Prop} {p : PS} {Ab A1 A2 : Option Addr} {bl : List BD} {V pl : List Int} {ss : List SnD} (h : EndW w base g F p Ab nb bl gv V A1 m1 pl A2 m2 ss) (hi : WfP p) {n v : Int} (hv : evP p.T V n = some v) :
  Calls prog 26 #[.pointer (some ⟨g, 0, none⟩), .int .i64 n, .slice (some ⟨gv, 0, none⟩) 260 260] w fun e w' => e = .returned (.tuple #[.int .u64 v, .int .i64 0]) ∧ Below w.heap.size w w' := by
 have hb : hasB p.T n = true := by
  cases hq : hasB p.T n
  ·rw [evP_no hq] at hv; cases hv
  ·rfl
 refine (Eval_any n (has_i64 hi hb) w h.pool h.vars h.vlen (Nat.le_refl _) (by omega) h.vu).mono ?_
 rintro e w' ⟨rfl, hb⟩
 rw [hv]
 exact ⟨rfl, hb⟩
section
variable {w : World} {base g gv m1 m2 nb cb c1 c2 : Nat} {F : Nat → Prop} {p : PS} {Ab A1 A2 : Option Addr} {bl : List BD} {V pl : List Int} {ss : List SnD} {regs : List Int} {es : Value} {ex : ExD}
theorem ends_exit (h : EndW w base g F p Ab nb bl gv V A1 m1 pl A2 m2 ss) (hi : WfP p) (hl : regs.length = 11) (hk : ex.kind = 0) {v : Int} (hv : evP p.T V ex.v = some v) {k : Nat} (hm : m1 = k + 1) {s : SnD} (hs : ss[k]? = some s) (hsv : s.regs.getD 0 0 = v) :
  Calls prog 33 #[.pointer (some ⟨g, 0, none⟩), .slice Ab nb cb, .agg (srcC regs es ex).toArray, .slice (some ⟨gv, 0, none⟩) 260 260, .slice A1 m1 c1, .slice A2 m2 c2, .int .i64 (m1 : Int)] w fun e w' => e = .returned (.bool true) ∧ Below w.heap.size w w' := by
 obtain ⟨w1, hw1⟩ : ∃ z, w.alloc (.cells (srcC regs es ex).toArray 65) = z := ⟨_, rfl⟩
 have hx : Blk w1 w.heap.size 65 (srcC regs es ex).toArray := by rw [← hw1]; exact Blk.new w _ _
 have hb0 : Below w.heap.size w w1 := by rw [← hw1]; exact (Below.refl _ w).alloc (Nat.le_refl _) _
 have H := Hd (h.below hb0)
 have HB := Hd hb0
 have HI := Hd hi
 have HV := Hd hv
 obtain ⟨b9, hb9⟩ : ∃ q, w.heap.size = q := ⟨_, rfl⟩
 rw [hb9] at hx
 have k12 : w1.cell? ⟨b9, 12, none⟩ = some (.int .i8 0) := by rw [← hk]; exact src_cell hl hx 1
 have k13 : w1.cell? ⟨b9, 13, none⟩ = some (.int .i64 ex.v) := src_cell hl hx 2
 have HS := Hd (And.intro hs hsv)
 have hk2 : m2 = k + 1 := by rw [h.m2e, hm]
 subst hm hk2
 have hfew : k + 1 < 1000 := h.few
 clear h hx hb0 hi hv hk hs hsv
 go_enter func33, ntmps33
 go_wp2_with fail
 refine (H.out.eval HI.out HV.out).mono ?_
 rintro e w2 ⟨rfl, hb⟩
 replace H := Hd (H.out.below hb)
 replace HB := Hd (HB.out.trans (hb.mono HB.out.size))
 clear hb k12 k13
 obtain ⟨ad, rfl, hab, hc⟩ := sn_cell H.out.sn H.out.ok HS.out.1 (by omega)
 have cs := hc 0 (by omega)
 rw [HS.out.2] at cs
 have cs : w2.cell? (ad.add (k * 76)) = some (.int .u64 v) := by rwa [add_of_add, Nat.add_zero] at cs
 clear hc
 go_wp2_with fail
 go_ret
 exact ⟨rfl, HB.out⟩
theorem ends_on (h : EndW w base g F p Ab nb bl gv V A1 m1 pl A2 m2 ss) (hi : WfP p) (hl : regs.length = 11) (hk : ex.kind ≠ 0) {xv : Int} (hv : ex.kind = 2 → evP p.T V ex.v = some xv) {z : Nat} (hz : z < m1) {k : Nat} (hto : (if ex.kind = 2 ∧ xv = 0 then ex.els else ex.tgt) = (k : Int)) {bd : BD} (hbd : bl[k]? = some bd) (hpl : pl[z]? = some bd.frm) {s : SnD} (hs : ss[z]? = some s) (hr : ∀ i, i < 11 → evP p.T V (regs.getD i 0) = some (s.regs.getD i 0)) :
  Calls prog 33 #[.pointer (some ⟨g, 0, none⟩), .slice Ab nb cb, .agg (srcC regs es ex).toArray, .slice (some ⟨gv, 0, none⟩) 260 260, .slice A1 m1 c1, .slice A2 m2 c2, .int .i64 (z : Int)] w fun e w' => e = .returned (.bool true) ∧ Below w.heap.size w w' := by
 obtain ⟨w1, hw1⟩ : ∃ z, w.alloc (.cells (srcC regs es ex).toArray 65) = z := ⟨_, rfl⟩
 have hx : Blk w1 w.heap.size 65 (srcC regs es ex).toArray := by rw [← hw1]; exact Blk.new w _ _
 have hb0 : Below w.heap.size w w1 := by rw [← hw1]; exact (Below.refl _ w).alloc (Nat.le_refl _) _
 have HI := Hd hi
 have HL := Hd hl
 have HQ := Hd (And.intro hbd (And.intro hpl (And.intro hs hr)))
 have hm2 := h.m2e.symm
 subst hm2
 have H := Hd (h.below hb0)
 have HB := Hd hb0
 obtain ⟨b9, hb9⟩ : ∃ q, w.heap.size = q := ⟨_, rfl⟩
 rw [hb9] at hx
 have HX := Hd hx
 have hfew := h.few
 obtain ⟨kd, hkd⟩ : ∃ q, ex.kind = q := ⟨_, rfl⟩
 have k12 : w1.cell? ⟨b9, 12, none⟩ = some (.int .i8 kd) := by rw [← hkd]; exact src_cell hl hx 1
 have k13 : w1.cell? ⟨b9, 13, none⟩ = some (.int .i64 ex.v) := src_cell hl hx 2
 have k14 : w1.cell? ⟨b9, 14, none⟩ = some (.int .i64 ex.tgt) := src_cell hl hx 3
 rw [hkd] at hk hv hto
 have hk0 : (kd == 0) = false := by simpa using hk
 have HV := Hd hv
 have hg : decide ((m1 : Int) ≤ (z : Int)) = false := by rw [decide_eq_false_iff_not]; omega
 have hg2 : decide (m1 ≤ z) = false := by rw [decide_eq_false_iff_not]; omega
 clear h hx hb0 hi hl hbd hpl hs hr hkd hk hv
 cases h2 : (kd == 2)
 ·have hne : kd ≠ 2 := by simpa using h2
  rw [if_neg (fun q => hne q.1)] at hto
  rw [hto] at k14
  clear hto hne
  go_enter func33, ntmps33
  obtain ⟨adb, bx, sx, rfl, hbb, hbx, _, _, hbc⟩ := H.out.blks.at_ (k := k) (by have := H.out.blks.len; have := (List.getElem?_eq_some_iff.1 HQ.out.1).1; omega)
  obtain rfl : bx = bd := by rw [HQ.out.1] at hbx; exact (Option.some.inj hbx).symm
  have kb : w1.cell? (adb.add (k * 3)) = some (.int .i64 bx.frm) := by
   have := hbc 0 _ rfl
   rwa [add_of_add, Nat.add_zero] at this
  obtain ⟨ada, u, rfl, hab, hu, ka⟩ := H.out.at_.at_ (k := z) hz
  obtain rfl : u = .int .i64 bx.frm := by
   rw [List.getElem?_map, HQ.out.2.1] at hu
   exact (Option.some.inj hu).symm
  have hkn : k < nb := by have := H.out.blks.len; have := (List.getElem?_eq_some_iff.1 HQ.out.1).1; omega
  have hnb := H.out.nbl
  have g1 : decide ((k : Int) < 0) = false := by rw [decide_eq_false_iff_not]; omega
  have g2 : decide ((nb : Int) ≤ (k : Int)) = false := by rw [decide_eq_false_iff_not]; omega
  have g3 : decide (nb ≤ k) = false := by rw [decide_eq_false_iff_not]; omega
  have g4 : (bx.frm != bx.frm) = false := by simp
  clear hbb hbx hbc hab hu
  go_upto_region 13 with fail
  refine wp_region_quiet_lit (by kernel_rfl) (by kernel_rfl) ?_
  repeat (first | go_big_quiet_step (fail) | quiet_step (fail))
  refine wpQuiet_nil ?_
  intro wq hwq
  obtain ⟨nq, rfl⟩ := hwq
  have hbq : Below w1.heap.size w1 (w1.drewN nq) := ⟨rfl, rfl, rfl, Nat.le_refl _, fun _ _ => rfl⟩
  replace H := Hd (H.out.below hbq)
  replace HB := Hd (HB.out.trans (hbq.mono HB.out.size))
  replace HX := Hd (HX.out.below hbq HX.out.lt)
  generalize w1.drewN nq = w3 at H HB HX ⊢
  clear hbq kb ka g1 g2 g3 g4 hkn hnb
  go_wp2_with fail
  go_loopw [20] (fun i wr => ∃ m : Nat, m ≤ 11 ∧ i = .int .i64 (m : Int) ∧ Hid (EndW wr base g F p (some adb) nb bl gv V (some ada) m1 pl A2 m1 ss ∧ Below w.heap.size w wr ∧ Blk wr b9 65 (srcC regs es ex).toArray)) (fun i _ => 11 - (intOf i).toNat)
  case atStart => exact ⟨0, by omega, rfl, H.out, HB.out, HX.out⟩
  case round =>
   obtain ⟨m, hm, rfl, HR⟩ := hrel
   rename World => wr
   clear H HB HX
   by_cases hlt : m < 11
   ·have cr : wr.cell? ⟨b9, m, none⟩ = some (.int .i64 (regs.getD m 0)) := src_reg HL.out HR.out.2.2 hlt
    obtain ⟨ri, hri⟩ : ∃ q, regs.getD m 0 = q := ⟨_, rfl⟩
    have hev := HQ.out.2.2.2 m hlt
    rw [hri] at cr hev
    have HEV := Hd hev
    clear hri hev
    go_upto_region 18 with fail
    go_wp2_with fail
    refine (HR.out.1.eval HI.out HEV.out).mono ?_
    rintro e w5 ⟨rfl, hb⟩
    have HR5 := Hd (And.intro (HR.out.1.below hb) (And.intro (HR.out.2.1.trans (hb.mono HR.out.2.1.size)) (HR.out.2.2.below hb HR.out.2.2.lt)))
    clear hb cr HR
    obtain ⟨ads, rfl, hsb, hsc⟩ := sn_cell HR5.out.1.sn HR5.out.1.ok HQ.out.2.2.1 hz
    obtain ⟨v, hv⟩ : ∃ q, s.regs.getD m 0 = q := ⟨_, rfl⟩
    have cs : w5.cell? ((ads.add (z * 76)).add m) = some (.int .u64 (s.regs.getD m 0)) := hsc m hlt
    rw [hv] at cs ⊢
    clear hsc hsb hv
    go_upto_region 19 with fail
    have g4 : (v != v) = false := by simp
    go_wp2_with fail
    go_roundw
    case measure => simp [intOf]; omega
    case rel => exact ⟨m + 1, by omega, by go_num, HR5.out⟩
   ·obtain rfl : m = 11 := by omega
    go_wp2
    go_ret
    exact ⟨rfl, HR.out.2.1⟩
 ·have he2 : kd = 2 := by simpa using h2
  subst he2
  have k15 : w1.cell? ⟨b9, 15, none⟩ = some (.int .i64 ex.els) := src_cell HL.out HX.out 4
  cases h3 : (xv == 0)
  ·have hne : xv ≠ 0 := by simpa using h3
   rw [if_neg (fun q => hne q.2)] at hto
   rw [hto] at k14
   clear hto hne k15
   go_enter func33, ntmps33
   go_wp2_with fail
   refine (H.out.eval HI.out (HV.out (by first | rfl | trivial))).mono ?_
   rintro e w2 ⟨rfl, hb⟩
   replace H := Hd (H.out.below hb)
   replace HB := Hd (HB.out.trans (hb.mono HB.out.size))
   replace HX := Hd (HX.out.below hb HX.out.lt)
   clear hb k12 k13 k14
   obtain ⟨adb, bx, sx, rfl, hbb, hbx, _, _, hbc⟩ := H.out.blks.at_ (k := k) (by have := H.out.blks.len; have := (List.getElem?_eq_some_iff.1 HQ.out.1).1; omega)
   obtain rfl : bx = bd := by rw [HQ.out.1] at hbx; exact (Option.some.inj hbx).symm
   have kb : w2.cell? (adb.add (k * 3)) = some (.int .i64 bx.frm) := by
    have := hbc 0 _ rfl
    rwa [add_of_add, Nat.add_zero] at this
   obtain ⟨ada, u, rfl, hab, hu, ka⟩ := H.out.at_.at_ (k := z) hz
   obtain rfl : u = .int .i64 bx.frm := by
    rw [List.getElem?_map, HQ.out.2.1] at hu
    exact (Option.some.inj hu).symm
   have hkn : k < nb := by have := H.out.blks.len; have := (List.getElem?_eq_some_iff.1 HQ.out.1).1; omega
   have hnb := H.out.nbl
   have g1 : decide ((k : Int) < 0) = false := by rw [decide_eq_false_iff_not]; omega
   have g2 : decide ((nb : Int) ≤ (k : Int)) = false := by rw [decide_eq_false_iff_not]; omega
   have g3 : decide (nb ≤ k) = false := by rw [decide_eq_false_iff_not]; omega
   have g4 : (bx.frm != bx.frm) = false := by simp
   clear hbb hbx hbc hab hu
   go_upto_region 13 with fail
   refine wp_region_quiet_lit (by kernel_rfl) (by kernel_rfl) ?_
   repeat (first | go_big_quiet_step (fail) | quiet_step (fail))
   refine wpQuiet_nil ?_
   intro wq hwq
   obtain ⟨nq, rfl⟩ := hwq
   have hbq : Below w2.heap.size w2 (w2.drewN nq) := ⟨rfl, rfl, rfl, Nat.le_refl _, fun _ _ => rfl⟩
   replace H := Hd (H.out.below hbq)
   replace HB := Hd (HB.out.trans (hbq.mono HB.out.size))
   replace HX := Hd (HX.out.below hbq HX.out.lt)
   generalize w2.drewN nq = w3 at H HB HX ⊢
   clear hbq kb ka g1 g2 g3 g4 hkn hnb
   go_wp2_with fail
   go_loopw [20] (fun i wr => ∃ m : Nat, m ≤ 11 ∧ i = .int .i64 (m : Int) ∧ Hid (EndW wr base g F p (some adb) nb bl gv V (some ada) m1 pl A2 m1 ss ∧ Below w.heap.size w wr ∧ Blk wr b9 65 (srcC regs es ex).toArray)) (fun i _ => 11 - (intOf i).toNat)
   case atStart => exact ⟨0, by omega, rfl, H.out, HB.out, HX.out⟩
   case round =>
    obtain ⟨m, hm, rfl, HR⟩ := hrel
    rename World => wr
    clear H HB HX
    by_cases hlt : m < 11
    ·have cr : wr.cell? ⟨b9, m, none⟩ = some (.int .i64 (regs.getD m 0)) := src_reg HL.out HR.out.2.2 hlt
     obtain ⟨ri, hri⟩ : ∃ q, regs.getD m 0 = q := ⟨_, rfl⟩
     have hev := HQ.out.2.2.2 m hlt
     rw [hri] at cr hev
     have HEV := Hd hev
     clear hri hev
     go_upto_region 18 with fail
     go_wp2_with fail
     refine (HR.out.1.eval HI.out HEV.out).mono ?_
     rintro e w5 ⟨rfl, hb⟩
     have HR5 := Hd (And.intro (HR.out.1.below hb) (And.intro (HR.out.2.1.trans (hb.mono HR.out.2.1.size)) (HR.out.2.2.below hb HR.out.2.2.lt)))
     clear hb cr HR
     obtain ⟨ads, rfl, hsb, hsc⟩ := sn_cell HR5.out.1.sn HR5.out.1.ok HQ.out.2.2.1 hz
     obtain ⟨v, hv⟩ : ∃ q, s.regs.getD m 0 = q := ⟨_, rfl⟩
     have cs : w5.cell? ((ads.add (z * 76)).add m) = some (.int .u64 (s.regs.getD m 0)) := hsc m hlt
     rw [hv] at cs ⊢
     clear hsc hsb hv
     go_upto_region 19 with fail
     have g4 : (v != v) = false := by simp
     go_wp2_with fail
     go_roundw
     case measure => simp [intOf]; omega
     case rel => exact ⟨m + 1, by omega, by go_num, HR5.out⟩
    ·obtain rfl : m = 11 := by omega
     go_wp2
     go_ret
     exact ⟨rfl, HR.out.2.1⟩
  ·have hne : xv = 0 := by simpa using h3
   subst hne
   rw [if_pos ⟨rfl, rfl⟩] at hto
   rw [hto] at k15
   clear hto h3
   go_enter func33, ntmps33
   go_wp2_with fail
   refine (H.out.eval HI.out (HV.out (by first | rfl | trivial))).mono ?_
   rintro e w2 ⟨rfl, hb⟩
   have k15' : w2.cell? ⟨b9, 15, none⟩ = some (.int .i64 (k : Int)) := (hb.cell (p := ⟨b9, 15, none⟩) HX.out.lt).trans k15
   replace H := Hd (H.out.below hb)
   replace HB := Hd (HB.out.trans (hb.mono HB.out.size))
   replace HX := Hd (HX.out.below hb HX.out.lt)
   clear hb k12 k13 k14 k15
   obtain ⟨adb, bx, sx, rfl, hbb, hbx, _, _, hbc⟩ := H.out.blks.at_ (k := k) (by have := H.out.blks.len; have := (List.getElem?_eq_some_iff.1 HQ.out.1).1; omega)
   obtain rfl : bx = bd := by rw [HQ.out.1] at hbx; exact (Option.some.inj hbx).symm
   have kb : w2.cell? (adb.add (k * 3)) = some (.int .i64 bx.frm) := by
    have := hbc 0 _ rfl
    rwa [add_of_add, Nat.add_zero] at this
   obtain ⟨ada, u, rfl, hab, hu, ka⟩ := H.out.at_.at_ (k := z) hz
   obtain rfl : u = .int .i64 bx.frm := by
    rw [List.getElem?_map, HQ.out.2.1] at hu
    exact (Option.some.inj hu).symm
   have hkn : k < nb := by have := H.out.blks.len; have := (List.getElem?_eq_some_iff.1 HQ.out.1).1; omega
   have hnb := H.out.nbl
   have g1 : decide ((k : Int) < 0) = false := by rw [decide_eq_false_iff_not]; omega
   have g2 : decide ((nb : Int) ≤ (k : Int)) = false := by rw [decide_eq_false_iff_not]; omega
   have g3 : decide (nb ≤ k) = false := by rw [decide_eq_false_iff_not]; omega
   have g4 : (bx.frm != bx.frm) = false := by simp
   clear hbb hbx hbc hab hu
   go_upto_region 13 with fail
   refine wp_region_quiet_lit (by kernel_rfl) (by kernel_rfl) ?_
   repeat (first | go_big_quiet_step (fail) | quiet_step (fail))
   refine wpQuiet_nil ?_
   intro wq hwq
   obtain ⟨nq, rfl⟩ := hwq
   have hbq : Below w2.heap.size w2 (w2.drewN nq) := ⟨rfl, rfl, rfl, Nat.le_refl _, fun _ _ => rfl⟩
   replace H := Hd (H.out.below hbq)
   replace HB := Hd (HB.out.trans (hbq.mono HB.out.size))
   replace HX := Hd (HX.out.below hbq HX.out.lt)
   generalize w2.drewN nq = w3 at H HB HX ⊢
   clear hbq kb ka g1 g2 g3 g4 hkn hnb
   go_wp2_with fail
   go_loopw [20] (fun i wr => ∃ m : Nat, m ≤ 11 ∧ i = .int .i64 (m : Int) ∧ Hid (EndW wr base g F p (some adb) nb bl gv V (some ada) m1 pl A2 m1 ss ∧ Below w.heap.size w wr ∧ Blk wr b9 65 (srcC regs es ex).toArray)) (fun i _ => 11 - (intOf i).toNat)
   case atStart => exact ⟨0, by omega, rfl, H.out, HB.out, HX.out⟩
   case round =>
    obtain ⟨m, hm, rfl, HR⟩ := hrel
    rename World => wr
    clear H HB HX
    by_cases hlt : m < 11
    ·have cr : wr.cell? ⟨b9, m, none⟩ = some (.int .i64 (regs.getD m 0)) := src_reg HL.out HR.out.2.2 hlt
     obtain ⟨ri, hri⟩ : ∃ q, regs.getD m 0 = q := ⟨_, rfl⟩
     have hev := HQ.out.2.2.2 m hlt
     rw [hri] at cr hev
     have HEV := Hd hev
     clear hri hev
     go_upto_region 18 with fail
     go_wp2_with fail
     refine (HR.out.1.eval HI.out HEV.out).mono ?_
     rintro e w5 ⟨rfl, hb⟩
     have HR5 := Hd (And.intro (HR.out.1.below hb) (And.intro (HR.out.2.1.trans (hb.mono HR.out.2.1.size)) (HR.out.2.2.below hb HR.out.2.2.lt)))
     clear hb cr HR
     obtain ⟨ads, rfl, hsb, hsc⟩ := sn_cell HR5.out.1.sn HR5.out.1.ok HQ.out.2.2.1 hz
     obtain ⟨v, hv⟩ : ∃ q, s.regs.getD m 0 = q := ⟨_, rfl⟩
     have cs : w5.cell? ((ads.add (z * 76)).add m) = some (.int .u64 (s.regs.getD m 0)) := hsc m hlt
     rw [hv] at cs ⊢
     clear hsc hsb hv
     go_upto_region 19 with fail
     have g4 : (v != v) = false := by simp
     go_wp2_with fail
     go_roundw
     case measure => simp [intOf]; omega
     case rel => exact ⟨m + 1, by omega, by go_num, HR5.out⟩
    ·obtain rfl : m = 11 := by omega
     go_wp2
     go_ret
     exact ⟨rfl, HR.out.2.1⟩
end
end
end Go.Proofs.YtepagfkkjlbipaaGreat
