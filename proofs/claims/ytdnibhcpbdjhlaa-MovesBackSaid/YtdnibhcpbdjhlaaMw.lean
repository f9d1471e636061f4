/-
  Plain words on what moves do to registers' values. Conditions: those written in each statement.
-/
import Derived.Test.YtdnibhcpbdjhlaaMt
import Derived.Test.YtdnibhcpbdjhlaaMu
namespace Go.Proofs.Ytdnibhcpbdjhlaa
open Go.RowKit
set_option linter.unusedVariables false
set_option linter.unusedSimpArgs false
def Regs (l : List Mv) : Prop := ∀ x ∈ l, (0 ≤ x.1 ∧ x.1 < 16) ∧ 0 ≤ x.2 ∧ x.2 < 16
def valF (R : List Int) (i : Int) : Int := R.getD i.toNat 0
theorem set_val {R : List Int} (hR : R.length = 16) {F : Int → Int} (h : ∀ i, 0 ≤ i → i < 16 → valF R i = F i) {x : Mv} (hx : (0 ≤ x.1 ∧ x.1 < 16) ∧ 0 ≤ x.2 ∧ x.2 < 16) (i : Int) (h0 : 0 ≤ i) (h1 : i < 16) : valF (setR R x) i = updF F x.1 (F x.2) i := by
  obtain ⟨⟨a0, a1⟩, b0, b1⟩ := hx
  unfold setR
  rw [if_pos (by rw [regB_iff.2 ⟨a0, a1⟩, regB_iff.2 ⟨b0, b1⟩]; rfl)]
  unfold valF updF
  by_cases e : i = x.1
  · subst e
    rw [if_pos rfl, List.getD_eq_getElem?_getD, List.getElem?_set_self (by omega)]
    exact h x.2 b0 b1
  · rw [if_neg e, List.getD_eq_getElem?_getD, List.getElem?_set_ne (by omega), ← List.getD_eq_getElem?_getD]
    exact h i h0 h1
theorem do_val : ∀ (O : List Mv) (R : List Int) (F : Int → Int), R.length = 16 → Regs O → (∀ i, 0 ≤ i → i < 16 → valF R i = F i) → ∀ i, 0 ≤ i → i < 16 → valF (doL O R) i = doF O F i
  | [], R, F, _, _, h, i, h0, h1 => h i h0 h1
  | x :: t, R, F, hR, hO, h, i, h0, h1 => by
    rw [doL, doF]
    exact do_val t (setR R x) _ (by rw [setR_len, hR]) (fun y hy => hO y (by simp [hy])) (fun j j0 j1 => set_val hR h (hO x (by simp)) j j0 j1) i h0 h1
theorem run_regs {s : Int} (hs : 0 ≤ s ∧ s < 16) : ∀ (n : Nat) {L : List Mv}, meas L ≤ n → OkM s L → Regs L → Regs (runA s L)
  | 0, L, h, hk, hr => by
    have : L = [] := List.eq_nil_of_length_eq_zero (by unfold meas at h; omega)
    subst this
    rw [run_nil]
    intro x hx
    simp at hx
  | n + 1, L, h, hk, hr => by
    by_cases hl : L = []
    · subst hl
      rw [run_nil]
      intro x hx
      simp at hx
    · have hlt := step_lt hk hl
      have hk2 := step_ok hk hl
      have hstep : Regs [(stepM s L).1] ∧ Regs (stepM s L).2 := by
        cases hf : freeP L with
        | some k =>
          obtain ⟨a, x, b, e, h1, h2, _⟩ := free_split hf
          rw [step_free hf h1 h2]
          refine ⟨fun y hy => ?_, fun y hy => ?_⟩
          · simp at hy
            subst hy
            exact hr _ (by rw [e]; simp)
          · refine hr y ?_
            rw [e]
            rcases List.mem_append.1 hy with q | q
            · exact List.mem_append.2 (.inl q)
            · exact List.mem_append.2 (.inr (List.mem_cons_of_mem _ q))
        | none =>
          match L, hl with
          | x :: t, _ =>
            rw [step_stuck hk hf]
            have hx := hr x (by simp)
            refine ⟨fun y hy => ?_, fun y hy => ?_⟩
            · simp at hy
              subst hy
              exact ⟨hs, hx.2⟩
            · rcases List.mem_cons.1 hy with rfl | q
              · exact ⟨hx.1, hs⟩
              · exact hr y (by simp [q])
      rw [run_step hk hl]
      intro y hy
      rcases List.mem_cons.1 hy with rfl | q
      · exact hstep.1 _ (by simp)
      · exact run_regs hs n (by omega) hk2 hstep.2 y q
/-- What a register should have. -/
def wantL (F : Int → Int) (r : Int) : List Mv → Int → Int
  | [], c => c
  | x :: t, c => wantL F r t (if x.1 = r then F x.2 else c)
theorem want_snoc (F : Int → Int) (r : Int) : ∀ (l : List Mv) (x : Mv) (c : Int), wantL F r (l ++ [x]) c = if x.1 = r then F x.2 else wantL F r l c
  | [], x, c => rfl
  | y :: t, x, c => by rw [List.cons_append, wantL, want_snoc F r t x, wantL]
theorem want_lk (F : Int → Int) (r : Int) : ∀ (l : List Mv) (c : Int), (l.map (·.1)).Nodup → wantL F r l c = match lk l r with | some f => F f | none => c
  | [], c, _ => rfl
  | x :: t, c, h => by
    rw [List.map_cons, List.nodup_cons] at h
    rw [wantL, want_lk F r t _ h.2, show lk (x :: t) r = if x.1 = r then some x.2 else lk t r from rfl]
    by_cases e : x.1 = r
    · have hn : lk t r = none := lk_none.2 (by rw [← e]; exact h.1)
      rw [if_pos e, if_pos e, hn]
    · rw [if_neg e, if_neg e]
theorem once_runL (F : Int → Int) (r : Int) : ∀ (l : List Mv), (l.map (·.1)).Nodup → onceF (runL l) F r = onceF l F r := by
  intro l hn
  have hsub : (runL l).Sublist l := List.filter_sublist
  have hn2 := (hsub.map (·.1)).nodup hn
  unfold onceF
  cases h : lk l r with
  | none =>
    have : lk (runL l) r = none := lk_none.2 fun q => lk_none.1 h ((hsub.map _).subset q)
    rw [this]
  | some f =>
    have hm := lk_mem h
    by_cases e : r = f
    · subst e
      have : lk (runL l) r = none := lk_none.2 fun q => by
        obtain ⟨y, hy, e⟩ := List.mem_map.1 q
        obtain ⟨y0, y1⟩ := y
        dsimp only at e
        subst e
        obtain ⟨h1, h2⟩ := List.mem_filter.1 hy
        have := mem_lk hn h1
        rw [h] at this
        injection this with this
        subst this
        unfold nsB at h2
        simp at h2
      rw [this]
    · have : (r, f) ∈ runL l := List.mem_filter.2 ⟨hm, by unfold nsB; simpa using e⟩
      rw [mem_lk hn2 this]
theorem may_regs {l : List Mv} {s : Int} (h : mayM l s = true) : Regs l ∧ (0 ≤ s ∧ s < 16) ∧ (l.map (·.1)).Nodup := by
  obtain ⟨_, h1, h2⟩ := may_iff.1 h
  obtain ⟨h3, h4⟩ := named_iff.1 h2
  exact ⟨fun x hx => ⟨regB_iff.1 (h4 x hx).1, regB_iff.1 (h4 x hx).2⟩, regB_iff.1 h1, h3⟩
theorem runE_zero {l : List Mv} {s : Int} (h : runE l s = 0) : l.length ≤ 16 ∧ mayM l s = true ∧ runO l s = runA s (runL l) := by
  unfold runE at h
  split at h
  · cases h
  · rename_i h16
    split at h
    · rename_i hm
      refine ⟨by omega, hm, ?_⟩
      unfold runO
      rw [if_neg h16, hm]
      rfl
    · cases h
/-- What moves in order do: what all at once do, but to the scratch. -/
theorem run_once {l : List Mv} {s : Int} (h : runE l s = 0) {R : List Int} (hR : R.length = 16) {r : Int} (h0 : 0 ≤ r) (h1 : r < 16) (hs : r ≠ s) : valF (doL (runO l s) R) r = onceF l (valF R) r := by
  obtain ⟨_, hm, ho⟩ := runE_zero h
  obtain ⟨hr, hsr, hn⟩ := may_regs hm
  have hok := ok_runL hm
  have hrl : Regs (runL l) := fun x hx => hr x (List.mem_filter.1 hx).1
  rw [ho, do_val _ R (valF R) hR (run_regs hsr _ (Nat.le_refl _) hok hrl) (fun _ _ _ => rfl) r h0 h1, do_run _ (Nat.le_refl _) hok _ r hs, once_runL _ _ _ hn]
theorem run_want {l : List Mv} {s : Int} (h : runE l s = 0) {R : List Int} (hR : R.length = 16) {r : Int} (h0 : 0 ≤ r) (h1 : r < 16) (hs : r ≠ s) : valF (doL (runO l s) R) r = wantL (valF R) r l (valF R r) := by
  obtain ⟨_, hm, _⟩ := runE_zero h
  rw [run_once h hR h0 h1 hs, want_lk _ _ _ _ (may_regs hm).2.2]
  rfl
end Go.Proofs.Ytdnibhcpbdjhlaa
