/-
  One element laid into a slice and appended to a row of the call's own, whatever the element's size. Conditions: those written in each statement.
-/
import Derived.Test.YtafbjcnonhpldaaRow
namespace Go.Proofs.Ytafbjcnonhpldaa
open Go.RowKit
set_option linter.unusedVariables false
set_option linter.unusedSimpArgs false
theorem fold_fill : ∀ (l : List Value) (k : Nat) (a : Array Value), k + l.length ≤ a.size → (l.zipIdx k).foldl (fun cs (p : Value × Nat) => cs.setIfInBounds p.2 p.1) a = (a.toList.take k ++ l ++ a.toList.drop (k + l.length)).toArray
  | [], k, a, h => by simp
  | x :: r, k, a, h => by
    have hk : k < a.size := by simp at h; omega
    rw [List.zipIdx_cons, List.foldl_cons, fold_fill r (k + 1) (a.setIfInBounds k x) (by simp at h ⊢; omega)]
    apply congrArg List.toArray
    apply List.ext_getElem?
    intro i
    simp only [Array.toList_setIfInBounds, List.getElem?_append, List.length_take, List.length_set, Array.length_toList, List.length_append, List.length_cons, List.getElem?_take, List.getElem?_set, List.getElem?_drop, List.getElem?_cons]
    rw [show min (k + 1) a.size = k + 1 by omega, show min k a.size = k by omega]
    by_cases h1 : i < k
    · simp [h1, show i < k + 1 by omega, show k ≠ i by omega, show i < k + 1 + r.length by omega, show i < k + (r.length + 1) by omega]
    · by_cases h2 : i = k
      · subst h2
        simp [hk, show i < i + 1 + r.length by omega]
      · by_cases h3 : i < k + (r.length + 1)
        · simp [h1, h3, show ¬ i < k + 1 by omega, show i < k + 1 + r.length by omega, show i - k ≠ 0 by omega, show i - k - 1 = i - (k + 1) by omega]
        · simp [h1, h3, show ¬ i < k + 1 by omega, show ¬ i < k + 1 + r.length by omega, show k ≠ k + 1 + r.length + (i - (k + 1 + r.length)) by omega]
          congr 1; omega
theorem fold_fill_all (c a : Array Value) (h : a.size = c.size) : (c.zipIdx.foldl (fun cs (p : Value × Nat) => cs.setIfInBounds (0 + p.2) p.1) a) = c := by
  rw [← Array.foldl_toList, Array.toList_zipIdx]
  have := fold_fill c.toList 0 a (by simp; omega)
  simp only [Nat.zero_add] at this ⊢
  rw [this, List.drop_of_length_le (by simp; omega)]
  simp
section
variable {P : Program}
theorem run_buildSlice_one (w : World) (t e : TypeId) (i0 : TypeInfo) (z v : Value) (ht : P.underlying t = some (.slice e)) (hi : P.info? e = some i0) (hz : i0.zero = some z) (hs : i0.size ≤ 1024) (h0 : 0 < i0.size) (hv : v.cells.size = i0.size) :
    (Instr.buildSlice t 1 #[(0, v)]).run P w = .ok (.slice (some ⟨w.heap.size, 0, none⟩) 1 1) (w.alloc (.cells v.cells e)) := by
  have hfill : Instr.fill (fun i => some (i * i0.size, i0.size)) ((Array.range (1 * i0.size)).map (z.cells[· % z.cells.size]!)) [(0, v)] = some v.cells := by
    unfold Instr.fill
    have hsz : ((Array.range (1 * i0.size)).map (z.cells[· % z.cells.size]!)).size = v.cells.size := by simp [hv]
    simp only [hv, ne_eq, not_true_eq_false, decide_false, Bool.false_or, Nat.zero_mul]
    rw [if_neg (by simp)]
    unfold Instr.fill
    rw [fold_fill_all v.cells _ hsz]
  have h24 : ¬ (1 * i0.size > 2 ^ 24) := by omega
  have hne : ¬ (1 * i0.size = 0) := by omega
  simp only [Instr.buildSlice, Sem.run_bind, run_underlying ht, Result.andThen_ok, sizeOf, typeInfo]
  simp only [run_program, Sem.run_bind, Result.andThen_ok, hi, Sem.run_pure, if_neg h24, if_neg hne, zeroValue, typeInfo, hz, hfill, newRow, newObj]
  rfl
/-- out = append(out, v). -/
theorem wpList_push {ops : Array Oper} {rest : List Oper} {o1 o2 : Oper} {a : Act} {w : World} {Q : Exit → Act → World → Prop} (hg1 : o1.guard = none) (hg2 : o2.guard = none) (t e : TypeId) (x s y : Operand)
    (ho1 : o1.op = .buildSlice t 1 #[(0, x)]) (ho2 : o2.op = .call { callee := .builtin .append, args := #[s, y], argTypes := #[t, t] })
    (base size bytes : Nat) (i0 : TypeInfo) (z v sv : Value) (cs xs : List Value) (n : Nat) (ht : P.underlying t = some (.slice e)) (hi : P.info? e = some i0) (hz : i0.zero = some z) (hs : i0.size = size) (hb : i0.bytes = bytes)
    (hzs : z.cells.size = size) (h0 : 0 < size) (hs0 : size ≤ 1024) (hx : a.eval x = v) (hcs : v.cells = cs.toArray) (hvs : cs.length = size) (h1 : ∀ u ∈ cs, u.oneCell' = true)
    (hown : w.ownsRow base e size sv n xs) (hbase : base ≤ w.heap.size) (h63 : n + 1 ≤ maxLen) (hbytes : (n + 1) * bytes ≤ 140737488355328)
    (hsv : (a.put o1.dst (.slice (some ⟨w.heap.size, 0, none⟩) 1 1)).eval s = sv) (hy : (a.put o1.dst (.slice (some ⟨w.heap.size, 0, none⟩) 1 1)).eval y = .slice (some ⟨w.heap.size, 0, none⟩) 1 1)
    (h : ∀ v' w' g, w.heap.size ≤ g → w'.ownsRow base e size v' (n + 1) (xs ++ cs) → Below base w w' → w.grownBy w' sv.ownBlock → wpList P ops Q rest ((a.put o1.dst (.slice (some ⟨g, 0, none⟩) 1 1)).put o2.dst v') w') : wpList P ops Q (o1 :: o2 :: rest) a w := by
  subst hs hb
  refine wpList_plain hg1 fun K hK => ?_
  unfold Oper.wp execOp
  have hrun := run_buildSlice_one (P := P) w t e i0 z v ht hi hz hs0 h0 (by rw [hcs]; simpa using hvs)
  simp only [ho1, Sem.run_bind, List.map_toArray, List.map_cons, List.map_nil, hx, hrun, Result.andThen_ok, Sem.run_pure]
  refine hK _ _ ?_
  have hown' := hown.alloc (Obj.cells v.cells e)
  have hnew : Reads (w.alloc (.cells v.cells e)) (w.heap.size + 1) i0.size (some ⟨w.heap.size, 0, none⟩) 1 cs := by
    refine ⟨by omega, fun _ => ⟨_, rfl, Nat.lt_succ_self _, fun j u hu => ?_⟩⟩
    rw [show (⟨w.heap.size, 0, none⟩ : Addr).add j = ⟨w.heap.size, j, none⟩ from by unfold Addr.add; split <;> simp_all]
    rw [(Blk.new w e v.cells).cell j, hcs]
    simpa using hu
  refine wpList_append_any _ hg2 s y t ho2 base e i0 z i0.size i0.bytes ht hi hz rfl rfl hzs h0 sv n xs hsv hown' _ _ 1 1 cs hy hnew h1 h63 hbytes (by simp; omega) fun v' w' q1 q2 q3 => ?_
  have hgr : w.grownBy w' sv.ownBlock := (World.grownBy_alloc w _ sv.ownBlock).trans q2
  exact h v' w' _ (Nat.le_refl _) q1 ((Below.refl _ _).grown hgr hbase (fun g hg => by
    rcases hown.2 with ⟨hsv0, _⟩ | ⟨g', cap, cur, hsv0, hg', _⟩
    · rw [hsv0] at hg; simp [Value.ownBlock] at hg
    · rw [hsv0] at hg; simp [Value.ownBlock] at hg; omega)) hgr
end
end Go.Proofs.Ytafbjcnonhpldaa
