/-
  A row of the call's own that is cut and appended to anew. Conditions: those written in each statement.
-/
import Derived.Test.YtdnibhcpbdjhlaaMp
import Derived.ArgAppend
import Derived.StillTailTactics
namespace Go.Proofs.Ytdnibhcpbdjhlaa
open Go.RowKit
set_option linter.unusedVariables false
set_option linter.unusedSimpArgs false
def RowL (w : World) (base : Nat) (e : TypeId) (size : Nat) (v : Value) (n : Nat) (xs : List Value) : Prop :=
  xs.length = n * size ∧ ((v = .slice none 0 0 ∧ n = 0) ∨ ∃ g cap cur, v = .slice (some ⟨g, 0, none⟩) n cap ∧ base ≤ g ∧ w.heap[g]? = some (.cells cur e (0, 0)) ∧ n ≤ cap ∧ cur.toList.take (n * size) = xs ∧ n * size ≤ cur.size)
section
variable {w w' : World} {base : Nat} {e : TypeId} {size : Nat} {v : Value} {n : Nat} {xs : List Value}
theorem RowL.of_own (h : w.ownsRow base e size v n xs) : RowL w base e size v n xs := by
  refine ⟨h.1, ?_⟩
  rcases h.2 with h | ⟨g, cap, cur, h1, h2, h3, h4, _, h6, h7⟩
  · exact .inl h
  · exact .inr ⟨g, cap, cur, h1, h2, h3, h4, h7, by rw [h6]; exact Nat.mul_le_mul_right _ h4⟩
theorem RowL.mono {b : Nat} (h : RowL w base e size v n xs) (hb : b ≤ base) : RowL w b e size v n xs := by
  refine ⟨h.1, ?_⟩
  rcases h.2 with h | ⟨g, cap, cur, h1, h2, h3⟩
  · exact .inl h
  · exact .inr ⟨g, cap, cur, h1, Nat.le_trans hb h2, h3⟩
theorem RowL.ge (h : RowL w base e size v n xs) : ∀ g, v.ownBlock = some g → base ≤ g ∧ g < w.heap.size := by
  intro g hg
  rcases h.2 with ⟨h, _⟩ | ⟨g', cap, cur, h1, h2, h3, _⟩
  · rw [h] at hg; simp [Value.ownBlock] at hg
  · rw [h1] at hg
    simp [Value.ownBlock] at hg
    subst hg
    exact ⟨h2, (Array.getElem?_eq_some_iff.1 h3).1⟩
theorem RowL.block_ (h : RowL w base e size v n xs) (hb : ∀ g, v.ownBlock = some g → w'.heap[g]? = w.heap[g]?) : RowL w' base e size v n xs := by
  refine ⟨h.1, ?_⟩
  rcases h.2 with h | ⟨g, cap, cur, h1, h2, h3, h4⟩
  · exact .inl h
  · exact .inr ⟨g, cap, cur, h1, h2, by rw [hb g (by rw [h1]; rfl)]; exact h3, h4⟩
theorem RowL.grown (h : RowL w base e size v n xs) {row : Option Nat} (hg : w.grownBy w' row) (hne : v.ownBlock = none ∨ v.ownBlock ≠ row) : RowL w' base e size v n xs :=
  h.block_ fun g hv => hg.block g (h.ge g hv).2 (fun e => by
    rcases hne with hn | hn
    · rw [hn] at hv; cases hv
    · exact hn (by rw [hv, e]))
theorem RowL.below (h : RowL w base e size v n xs) (hb : Below w.heap.size w w') : RowL w' base e size v n xs := h.block_ fun g hv => hb.block g (h.ge g hv).2
theorem RowL.drew (h : RowL w base e size v n xs) : RowL w.drew base e size v n xs := h
theorem RowL.slice (h : RowL w base e size v n xs) : ∃ A c, v = .slice A n c ∧ n ≤ c ∧ Reads w w.heap.size size A n xs := by
  rcases h.2 with ⟨rfl, rfl⟩ | ⟨g, cap, cur, rfl, h2, h3, h4, h5, h6⟩
  · exact ⟨none, 0, rfl, Nat.le_refl _, h.1, fun h => absurd h (by omega)⟩
  · refine ⟨_, cap, rfl, h4, h.1, fun hn => ⟨_, rfl, (Array.getElem?_eq_some_iff.1 h3).1, fun j u hu => ?_⟩⟩
    have hj : j < n * size := by have := (List.getElem?_eq_some_iff.1 hu).1; rw [h.1] at this; exact this
    rw [show (⟨g, 0, none⟩ : Addr).add j = ⟨g, j, none⟩ from by unfold Addr.add; split <;> simp_all, cell_of_row w g j cur e (0, 0) h3]
    rw [← h5, List.getElem?_take, if_pos hj] at hu
    simpa using hu
theorem RowL.form (h : RowL w base e size v n xs) (hn : 0 < n) : ∃ g cap, v = .slice (some ⟨g, 0, none⟩) n cap ∧ n ≤ cap ∧ base ≤ g ∧ g < w.heap.size := by
  rcases h.2 with ⟨_, h0⟩ | ⟨g, cap, cur, h1, h2, h3, h4, _⟩
  · omega
  · exact ⟨g, cap, h1, h4, h2, (Array.getElem?_eq_some_iff.1 h3).1⟩
theorem RowL.cut {g cap k : Nat} (h : RowL w base e size (.slice (some ⟨g, 0, none⟩) n cap) n xs) (hk : k ≤ n) : RowL w base e size (.slice (some ⟨g, 0, none⟩) k k) k (xs.take (k * size)) := by
  have hl : k * size ≤ n * size := Nat.mul_le_mul_right _ hk
  refine ⟨by rw [List.length_take, h.1]; omega, ?_⟩
  rcases h.2 with ⟨h', _⟩ | ⟨g', cap', cur, h1, h2, h3, h4, h5, h6⟩
  · simp at h'
  · simp only [Value.slice.injEq, Option.some.injEq, Addr.mk.injEq, and_true, true_and] at h1
    obtain ⟨rfl, rfl⟩ := h1
    exact .inr ⟨g, k, cur, rfl, h2, h3, Nat.le_refl _, by rw [← h5, List.take_take, Nat.min_eq_left hl], by omega⟩
theorem RowL.cell {g cap : Nat} (h : RowL w base e size (.slice (some ⟨g, 0, none⟩) n cap) n xs) (j : Nat) (hj : j < n * size) : w.cell? ⟨g, j, none⟩ = xs[j]? := by
  rcases h.2 with ⟨h', _⟩ | ⟨g', cap', cur, h1, h2, h3, h4, h5, h6⟩
  · simp at h'
  · simp only [Value.slice.injEq, Option.some.injEq, Addr.mk.injEq, and_true, true_and] at h1
    obtain ⟨rfl, rfl⟩ := h1
    rw [cell_of_row w g j cur e (0, 0) h3, ← h5, List.getElem?_take, if_pos hj]
    simp
theorem RowL.frozen {g cap : Nat} (h : RowL w base e size (.slice (some ⟨g, 0, none⟩) n cap) n xs) (j : Nat) : w.frozen? ⟨g, j, none⟩ = false := by
  rcases h.2 with ⟨h', _⟩ | ⟨g', cap', cur, h1, h2, h3, h4, h5, h6⟩
  · simp at h'
  · simp only [Value.slice.injEq, Option.some.injEq, Addr.mk.injEq, and_true, true_and] at h1
    obtain ⟨rfl, rfl⟩ := h1
    exact frozen_of_row w g j cur e h3
theorem RowL.stored {g cap : Nat} (h : RowL w base e size (.slice (some ⟨g, 0, none⟩) n cap) n xs) (j : Nat) (u : Value) :
    RowL (w.setCell ⟨g, j, none⟩ u) base e size (.slice (some ⟨g, 0, none⟩) n cap) n (xs.set j u) ∧ w.grownBy (w.setCell ⟨g, j, none⟩ u) (some g) := by
  rcases h.2 with ⟨h', _⟩ | ⟨g', cap', cur, h1, h2, h3, h4, h5, h6⟩
  · simp at h'
  · simp only [Value.slice.injEq, Option.some.injEq, Addr.mk.injEq, and_true, true_and] at h1
    obtain ⟨rfl, rfl⟩ := h1
    refine ⟨⟨by simpa using h.1, .inr ⟨g, cap, cur.setIfInBounds j u, rfl, h2, heap_setCell_same w g j cur e u h3, h4, ?_, by simpa using h6⟩⟩,
      ⟨rfl, rfl, rfl, by simp, fun k _ hk => heap_setCell_other w ⟨g, j, none⟩ k u (fun e => hk (by simp [e]))⟩⟩
    rw [Array.toList_setIfInBounds, ← h5, List.take_set]
end
section
variable {P : Program}
theorem run_append_row (w : World) (base : Nat) (t ty e : TypeId) (i : TypeInfo) (z : Value) (size bytes : Nat) (ht : P.underlying t = some (.slice e)) (hi : P.info? e = some i) (hz : i.zero = some z)
    (hsize : i.size = size) (hby : i.bytes = bytes) (hzs : z.cells.size = size) (hsz : 0 < size) (g n : Nat) (olds : List Value) (h : RowL w base e size (.slice (some ⟨g, 0, none⟩) n n) n olds)
    (ad : Addr) (m c : Nat) (news : List Value) (hn : news.length = m * size) (hc : ∀ j u, news[j]? = some u → w.cell? (ad.add j) = some u) (h1 : ∀ u ∈ news, u.oneCell' = true)
    (h63 : n + m ≤ maxLen) (hbytes : (n + m) * bytes ≤ 140737488355328) (hbase : base ≤ w.heap.size) :
    ∃ v' w', (Builtin.append_ #[t, t] ty #[.slice (some ⟨g, 0, none⟩) n n, .slice (some ad) m c]).run P w = .ok v' w' ∧ RowL w' base e size v' (n + m) (olds ++ news) ∧ w.grownBy w' none ∧ (v'.ownBlock = some g ∨ v'.ownBlock = some w.heap.size ∨ ∃ q, v'.ownBlock = some q ∧ w.heap.size ≤ q) := by
  rcases Nat.eq_zero_or_pos m with h0 | h0
  · subst h0
    have hnil : news = [] := List.eq_nil_of_length_eq_zero (by simpa using hn)
    subst hnil
    subst hsize
    have := run_append_room_cells (P := P) w t ty e i ht hi g 0 n n ad 0 c [] (by simp) (by simp) (by simp) (by omega) (by simp) (by simp)
    refine ⟨_, _, this, ?_, ?_, .inl rfl⟩
    · simpa [World.setCells] using h
    · simpa [World.setCells] using World.grownBy.refl w none
  · obtain ⟨A, c', e1, _, hr⟩ := h.slice
    injection e1 with e1
    subst e1
    have holds : ∀ j u, olds[j]? = some u → w.cell? ((⟨g, 0, none⟩ : Addr).add j) = some u := by
      intro j u hu
      have hj : j < n * size := by have := (List.getElem?_eq_some_iff.1 hu).1; rw [h.1] at this; exact this
      rw [show (⟨g, 0, none⟩ : Addr).add j = ⟨g, j, none⟩ from by unfold Addr.add; split <;> simp_all, h.cell j hj, hu]
    obtain ⟨v', w', hrun, r1, r2⟩ := run_append_arg_grows (P := P) w t ty e i z size bytes ht hi hz hsize hby hzs hsz ⟨g, 0, none⟩ n n olds h.1 holds ad m c news hn hc (by omega) h63 hbytes
    refine ⟨v', w', hrun, (RowL.of_own r1).mono hbase, r2, .inr (.inr ?_)⟩
    obtain ⟨q, cap, rfl, _, hq, _⟩ := (RowL.of_own r1).form (by omega)
    exact ⟨q, rfl, hq⟩
/-- append(x[:k:k], x[l:]...), the operands' values known. -/
theorem wpList_append_row {ops : Array Oper} {rest : List Oper} {o : Oper} {a : Act} {w : World} {Q : Exit → Act → World → Prop} (hgd : o.guard = none) (s x : Operand) (t : TypeId)
    (ho : o.op = .call { callee := .builtin .append, args := #[s, x], argTypes := #[t, t] })
    (base : Nat) (e : TypeId) (i : TypeInfo) (z : Value) (size bytes : Nat) (ht : P.underlying t = some (.slice e)) (hi : P.info? e = some i) (hz : i.zero = some z)
    (hsize : i.size = size) (hby : i.bytes = bytes) (hzs : z.cells.size = size) (hsz : 0 < size) (g n : Nat) (olds : List Value) (hs : a.eval s = .slice (some ⟨g, 0, none⟩) n n) (h : RowL w base e size (.slice (some ⟨g, 0, none⟩) n n) n olds)
    (ad : Addr) (m c : Nat) (news : List Value) (hx : a.eval x = .slice (some ad) m c) (hn : news.length = m * size) (hc : ∀ j u, news[j]? = some u → w.cell? (ad.add j) = some u) (h1 : ∀ u ∈ news, u.oneCell' = true)
    (h63 : n + m ≤ maxLen) (hbytes : (n + m) * bytes ≤ 140737488355328) (hbase : base ≤ w.heap.size)
    (hK : ∀ v' w', RowL w' base e size v' (n + m) (olds ++ news) → w.grownBy w' none → (v'.ownBlock = some g ∨ v'.ownBlock = some w.heap.size ∨ ∃ q, v'.ownBlock = some q ∧ w.heap.size ≤ q) → wpList P ops Q rest (a.put o.dst v') w') : wpList P ops Q (o :: rest) a w :=
  wpList_plain hgd fun _ hK' => by
    obtain ⟨v', w', hrun, h2, h3, h4⟩ := run_append_row (P := P) w base t o.type e i z size bytes ht hi hz hsize hby hzs hsz g n olds h ad m c news hn hc h1 h63 hbytes hbase
    unfold Oper.wp execOp
    simp only [ho, resolve, invoke, builtin, Sem.run_bind, Sem.run_pure, Result.andThen_ok, List.map_toArray, List.map_cons, List.map_nil, hs, hx, hrun]
    exact hK' _ _ (hK v' w' h2 h3 h4)
/-- out = append(out, v), and where the row lies then. -/
theorem wpList_push_at {ops : Array Oper} {rest : List Oper} {o1 o2 : Oper} {a : Act} {w : World} {Q : Exit → Act → World → Prop} (hg1 : o1.guard = none) (hg2 : o2.guard = none) (t e : TypeId) (x s y : Operand)
    (ho1 : o1.op = .buildSlice t 1 #[(0, x)]) (ho2 : o2.op = .call { callee := .builtin .append, args := #[s, y], argTypes := #[t, t] })
    (base size bytes : Nat) (i0 : TypeInfo) (z v sv : Value) (cs xs : List Value) (n : Nat) (ht : P.underlying t = some (.slice e)) (hi : P.info? e = some i0) (hz : i0.zero = some z) (hs : i0.size = size) (hb : i0.bytes = bytes)
    (hzs : z.cells.size = size) (h0 : 0 < size) (hs0 : size ≤ 1024) (hx : a.eval x = v) (hcs : v.cells = cs.toArray) (hvs : cs.length = size) (h1 : ∀ u ∈ cs, u.oneCell' = true)
    (hown : w.ownsRow base e size sv n xs) (hbase : base ≤ w.heap.size) (h63 : n + 1 ≤ maxLen) (hbytes : (n + 1) * bytes ≤ 140737488355328)
    (hsv : (a.put o1.dst (.slice (some ⟨w.heap.size, 0, none⟩) 1 1)).eval s = sv) (hy : (a.put o1.dst (.slice (some ⟨w.heap.size, 0, none⟩) 1 1)).eval y = .slice (some ⟨w.heap.size, 0, none⟩) 1 1)
    (h : ∀ v' w' g, w.heap.size ≤ g → w'.ownsRow base e size v' (n + 1) (xs ++ cs) → Below base w w' → w.grownBy w' sv.ownBlock → (v'.ownBlock = sv.ownBlock ∨ ∃ q, v'.ownBlock = some q ∧ w.heap.size ≤ q) → wpList P ops Q rest ((a.put o1.dst (.slice (some ⟨g, 0, none⟩) 1 1)).put o2.dst v') w') : wpList P ops Q (o1 :: o2 :: rest) a w := by
  subst hs hb
  refine wpList_plain hg1 fun K hK => ?_
  unfold Oper.wp execOp
  have hrun := run_buildSlice_one (P := P) w t e i0 z v ht hi hz hs0 h0 (by rw [hcs]; simpa using hvs)
  simp only [ho1, Sem.run_bind, List.map_toArray, List.map_cons, List.map_nil, hx, hrun, Result.andThen_ok, Sem.run_pure]
  refine hK _ _ ?_
  have hown' := hown.alloc (Obj.cells v.cells e)
  have hnew : Reads (w.alloc (.cells v.cells e)) (w.heap.size + 1) i0.size (some ⟨w.heap.size, 0, none⟩) 1 cs := by
    refine ⟨by omega, fun _ => ⟨_, rfl, Nat.lt_succ_self _, fun j u hu => ?_⟩⟩
    rw [show (⟨w.heap.size, 0, none⟩ : Addr).add j = ⟨w.heap.size, j, none⟩ from by unfold Addr.add; split <;> simp_all]
    rw [(Blk.new w e v.cells).cell j, hcs]
    simpa using hu
  refine wpList_append_any _ hg2 s y t ho2 base e i0 z i0.size i0.bytes ht hi hz rfl rfl hzs h0 sv n xs hsv hown' _ _ 1 1 cs hy hnew h1 h63 hbytes (by simp; omega) fun v' w' q1 q2 q3 => ?_
  have hgr : w.grownBy w' sv.ownBlock := (World.grownBy_alloc w _ sv.ownBlock).trans q2
  exact h v' w' _ (Nat.le_refl _) q1 ((Below.refl _ _).grown hgr hbase (fun g hg => by
    rcases hown.2 with ⟨hsv0, _⟩ | ⟨g', cap, cur, hsv0, hg', _⟩
    · rw [hsv0] at hg; simp [Value.ownBlock] at hg
    · rw [hsv0] at hg; simp [Value.ownBlock] at hg; omega)) hgr (by
    rcases q3 with h | h
    · exact .inl h
    · exact .inr ⟨_, h, by simp⟩)
end
end Go.Proofs.Ytdnibhcpbdjhlaa
