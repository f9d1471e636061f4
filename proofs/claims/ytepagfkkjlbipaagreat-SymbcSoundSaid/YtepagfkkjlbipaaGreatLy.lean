/-
  A way cut at a place: what SymbcSound's law hands on. Conditions: those written in each statement.
-/
import Derived.Test.YtepagfkkjlbipaaGreatKbf
import Derived.Test.YtepagfkkjlbipaaGreatBo
set_option linter.unusedVariables false
set_option linter.unusedSimpArgs false
set_option maxHeartbeats 64000000
set_option maxRecDepth 100000
namespace Go.Proofs.YtepagfkkjlbipaaGreat
open Go.RowKit
theorem tr_len (q : List (TrE × Value)) : (q.flatMap trC).length = q.length * 3 := by
 induction q with
 | nil => rfl
 | cons x t ih => rw [List.flatMap_cons, List.length_append, ih]; simp [trC]; omega
theorem run_sliceL {P : Program} {t e : TypeId} (ht : P.underlying t = some (.slice e)) (size : Nat) (hi : (P.info? e).map (·.size) = some size) (A : Option Addr) (n c k : Nat) (hk : k ≤ n) (hc : n ≤ c) (w : World) : (Instr.sliceAt t (.slice A n c) (some (.int .i64 (k : Int))) none none).run P w = .ok (.slice (if c = k then A else A.map (·.add (k * size))) (n - k) (c - k)) w := by
 have hte : P.underlying t = some (.slice (P.elem t)) := by rw [elem_of ht]; exact ht
 cases hq : P.info? e with
 | none => simp [hq] at hi
 | some i =>
  have hs : i.size = size := by simpa [hq] using hi
  rw [run_sliceAt_slice w t _ _ _ _ hte, run_slice_l w t A n c hte .i64 (k : Int) (by omega) (by omega), elem_of ht]
  simp [sizeOf, typeInfo, hq, hs, Go.sliced, Sem.run_bind]
theorem E_sliceL {P : Program} {ops : Array Oper} {Q : Exit → Act → World → Prop} {md : Region.Mode} {T S : World → Prop} {late : List Nat} {fuel : Nat} {listed : Array Bool} {a : Act} {w : World} (i : Nat) (d : Option Tmp) (t : TypeId) (x lo : Operand) (vx vl v : Value) (ho : opAt ops i = some (d, .slice t x (some lo) none none)) (hc : checkE md ops late listed i false = true) (hw : wantAt ops i a = some true)
  (hQ : ∀ c a w, Q (.panic c) (a.put d v) w → Q (.panic c) a w) (hx : a.eval x = vx) (hl : a.eval lo = vl) (hr : ∀ w, (Instr.sliceAt t vx (some vl) none none).run P w = .ok v w)
  (hS : St T S late listed w) (h : wpAnyE P md ops Q T S late fuel (listed.setIfInBounds i true) (a.put d v) w) : wpAnyE P md ops Q T S late (fuel + 1) listed a w :=
 E_any false i d _ _ ho hc hw hQ (fun o e w _ => by
  unfold execOp
  simp only [e, hx, hl, Option.map_some, Option.map_none, Sem.run_bind, hr, Result.andThen_ok, Sem.run_pure]) hS h
theorem Path.drop_ {l : List ID} : ∀ (j : Nat) {q : List (Int × List Int)} {T : List TrE}, Path l q T → j < q.length → ∃ T', Path l (q.drop j) T'
 | 0, q, T, h, _ => ⟨T, by rw [List.drop_zero]; exact h⟩
 | j + 1, q, T, h, hj => by
  match q, hj with
  | [_], hj => simp at hj
  | p :: p' :: r, hj =>
   obtain ⟨_, _, _, T', _, _, _, _, _, hp⟩ := h.next
   obtain ⟨T2, h2⟩ := Path.drop_ j hp (by simp only [List.length_cons] at hj ⊢; omega)
   exact ⟨T2, by simpa using h2⟩
theorem path_blk {l : List ID} {b f z : Nat} {x : ID} (B : BkN l b f z x) {q : List (Int × List Int)} {T : List TrE} (h : Path l q T) {r0 : List Int} (h0 : q[0]? = some ((f : Int), r0)) : ∀ (j : Nat) (p : Int × List Int), q[j]? = some p → f + j ≤ z → p.1 = ((f + j : Nat) : Int)
 | 0, p, hp, _ => by rw [h0] at hp; rw [← Option.some.inj hp, Nat.add_zero]
 | j + 1, p, hp, hz => by
  have hlt := (List.getElem?_eq_some_iff.1 hp).1
  obtain ⟨pj, hj⟩ : ∃ y, q[j]? = some y := ⟨_, List.getElem?_eq_getElem (by omega)⟩
  have hpl := path_blk B h h0 j pj hj (by omega)
  obtain ⟨T', hd⟩ := h.drop_ j (by omega)
  rw [drop_two hj hp] at hd
  obtain ⟨i, y, tr, T2, e, hy, _, hs, _, _⟩ := hd.next
  rw [hpl] at e
  obtain rfl : i = f + j := (Int.ofNat.inj e).symm
  have := step_next hs (B.inner (by omega) (by omega) hy)
  omega
theorem TrAt.cutN {w : World} {F : Nat → Prop} {A : Option Addr} {n c k : Nat} {T : List TrE} (h : TrAt w F (.slice A n c) T) (hk : k ≤ n) : n = T.length ∧ n ≤ c ∧ TrAt w F (.slice (if c = k then A else A.map (·.add (k * 3))) (T.drop k).length (c - k)) (T.drop k) := by
 obtain ⟨A', c', q, e, hc, hq, hr, hw⟩ := h
 injection e with e1 e2 e3
 subst e1 e2 e3
 refine ⟨rfl, hc, _, c - k, q.drop k, rfl, by rw [List.length_drop]; omega, by rw [List.map_drop, hq], ⟨?_, fun hn => ?_⟩, fun p hp => hw p (List.mem_of_mem_drop hp)⟩
 ·rw [tr_len, List.length_drop, ← hq, List.length_drop, List.length_map]
 ·rw [List.length_drop] at hn
  obtain ⟨ad, e6, hb, hf, hcl⟩ := hr.2 (by omega)
  subst e6
  rw [if_neg (by omega)]
  refine ⟨ad.add (k * 3), rfl, by rw [block_of_add]; exact hb, by rw [block_of_add]; exact hf, fun j u hu => ?_⟩
  rw [add_of_add]
  refine hcl _ u ?_
  have e7 : q.flatMap trC = (q.take k).flatMap trC ++ (q.drop k).flatMap trC := by rw [← List.flatMap_append, List.take_append_drop]
  have hkq : k ≤ q.length := by have := congrArg List.length hq; simp at this; omega
  have h3 : ((q.take k).flatMap trC).length = k * 3 := by rw [tr_len, List.length_take]; congr 1; omega
  rw [e7, List.getElem?_append_right (by omega), h3, Nat.add_sub_cancel_left]
  exact hu
structure SoL (l : List ID) (Q : List (Int × List Int)) (T : List TrE) (i cl : Nat) : Prop where
 few : cl ≤ T.length
 path : i < Q.length → Path l (Q.drop i) (T.drop cl)
theorem SoL.next {l : List ID} {Q : List (Int × List Int)} {T : List TrE} {i cl : Nat} (h : SoL l Q T i cl) (hi : i < Q.length) {p : Int × List Int} (hp : Q[i]? = some p) {k : Nat} {x : ID} (hk : p.1 = (k : Int)) (hx : l[k]? = some x) : SoL l Q T (i + 1) (if x.kind = 5 ∧ cl < T.length then cl + 1 else cl) := by
 refine ⟨by split <;> have := h.few <;> omega, fun hi2 => ?_⟩
 obtain ⟨p', hp'⟩ : ∃ y, Q[i + 1]? = some y := ⟨_, List.getElem?_eq_getElem hi2⟩
 have hd := h.path hi
 rw [drop_two hp hp'] at hd
 obtain ⟨k2, x2, tr, T2, e, hx2, _, hs, eT, hpn⟩ := hd.next
 obtain rfl : k2 = k := by rw [hk] at e; exact (Int.ofNat.inj e).symm
 obtain rfl : x2 = x := by rw [hx] at hx2; exact (Option.some.inj hx2).symm
 have hq : Q.drop (i + 1) = p' :: Q.drop (i + 2) := by
  rw [List.drop_eq_getElem_cons hi2]
  congr 1
  exact (List.getElem?_eq_some_iff.1 hp').2
 rw [hq]
 have nil : tr = [] → x2.kind ≠ 5 → Path l (p' :: Q.drop (i + 2)) (T.drop (if x2.kind = 5 ∧ cl < T.length then cl + 1 else cl)) := fun e5 h5 => by
  rw [if_neg (fun z => h5 z.1), eT, e5]
  exact hpn
 rcases hs with ⟨a, _, _, e5⟩ | ⟨a, _, _, e5⟩ | ⟨a, _, _, e5⟩ | ⟨a, _, _, e5⟩ | ⟨a, _, _, e5⟩ | ⟨a, _, y, _, _, e5⟩
 ·exact nil e5 (by omega)
 ·exact nil e5 (by omega)
 ·exact nil e5 (by omega)
 ·exact nil e5 (by omega)
 ·exact nil e5 (by omega)
 ·rw [e5] at eT
  have hl : cl < T.length := by
   rcases Nat.lt_or_ge cl T.length with z | z
   ·exact z
   ·rw [List.drop_of_length_le z] at eT; simp at eT
  rw [if_pos ⟨a, hl⟩]
  have : T.drop (cl + 1) = T2 := by
   rw [← List.drop_drop, eT]
   rfl
  rw [this]
  exact hpn
theorem of_blk {l : List ID} (h : PrF l) {k : Nat} (hk : k < l.length) : ∃ (b f z : Nat) (x : ID), ofN (blkL l) (k : Int) = (b : Int) ∧ BkN l b f z x := by
 have h1 := ofK_pairs (begB_zero l) (blkL_pairs l) hk
 have hb : ofT (begB l) k < (blkL l).length := by
  unfold ofK at h1
  exact (List.findIdx?_eq_some_iff_getElem.1 h1).1
 obtain ⟨f, z, x, B⟩ := blk_nth h hb
 exact ⟨_, f, z, x, by unfold ofN; rw [h1], B⟩
theorem path_tr {l : List ID} {q : List (Int × List Int)} {T : List TrE} (h : Path l q T) : T.length ≤ q.length := by
 induction h with
 | one i x r hx hr => simp
 | cons i x r i' r' q tr T hx hr hs hp ih =>
  have := mstep_tr hs
  simp only [List.length_append, List.length_cons] at ih ⊢
  omega
theorem sn_drop {ss : List SnD} (ho : ∀ s ∈ ss, s.ok) {i : Nat} (hi : i ≤ ss.length) : (ss.drop i).flatMap snC = (ss.flatMap snC).drop (i * 76) := by
 have e7 : ss.flatMap snC = (ss.take i).flatMap snC ++ (ss.drop i).flatMap snC := by rw [← List.flatMap_append, List.take_append_drop]
 have len : ∀ L : List SnD, (∀ s ∈ L, s.ok) → (L.flatMap snC).length = L.length * 76 := fun L => by
  induction L with
  | nil => intro _; rfl
  | cons x r ih =>
   intro h
   rw [List.flatMap_cons, List.length_append, ih (fun s hs => h s (List.mem_cons_of_mem _ hs)), snC_len (h x List.mem_cons_self), List.length_cons]
   omega
 have h3 : ((ss.take i).flatMap snC).length = i * 76 := by rw [len _ (fun s hs => ho s (List.mem_of_mem_take hs)), List.length_take, Nat.min_eq_left hi]
 rw [e7, ← h3, List.drop_left]
theorem blkAt_of {l : List ID} {b f z : Nat} {x : ID} (B : BkN l b f z x) : blkAt l b = ⟨(f : Int), (z : Int) + 1, nextOf (begB l) b z x⟩ := by
 unfold blkAt
 rw [Int.toNat_natCast, List.getD_eq_getElem?_getD, B.at_]
 rfl
end Go.Proofs.YtepagfkkjlbipaaGreat
