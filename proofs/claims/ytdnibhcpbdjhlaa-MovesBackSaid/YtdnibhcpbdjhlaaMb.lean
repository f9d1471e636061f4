/-
  Plain words on moves that happen at once, put in order: what they do. Conditions: those written in each statement.
-/
import Derived.Test.YtdnibhcpbdjhlaaMa
namespace Go.Proofs.Ytdnibhcpbdjhlaa
set_option linter.unusedVariables false
set_option linter.unusedSimpArgs false
def brk (s f : Int) (l : List Mv) : List Mv := l.map fun x => if x.2 = f then (x.1, s) else x
/-- One move is put, and what is left then. -/
def stepM (s : Int) (l : List Mv) : Mv × List Mv := match freeP l with
  | some k => (l.getD k (0, 0), l.eraseIdx k)
  | none => ((s, (l.headD (0, 0)).2), brk s (l.headD (0, 0)).2 l)
def runM (s : Int) : Nat → List Mv → List Mv
  | 0, _ => []
  | _ + 1, [] => []
  | n + 1, x :: t => (stepM s (x :: t)).1 :: runM s n (stepM s (x :: t)).2
def meas (l : List Mv) : Nat := 2 * l.length + (if freeP l = none then 1 else 0)
def runA (s : Int) (l : List Mv) : List Mv := runM s (meas l) l
/-- Moves that are left: no "to" twice, none to the scratch, none to itself. -/
def OkM (s : Int) (l : List Mv) : Prop := (l.map (·.1)).Nodup ∧ s ∉ l.map (·.1) ∧ ∀ x ∈ l, x.1 ≠ x.2
theorem free_split {l : List Mv} {k : Nat} (h : freeP l = some k) : ∃ a x b, l = a ++ x :: b ∧ l.eraseIdx k = a ++ b ∧ l.getD k (0, 0) = x ∧ l[k]? = some x ∧ k < l.length ∧ ∀ y ∈ a ++ b, y.2 ≠ x.1 := by
  obtain ⟨x, hx, hf⟩ := freeP_inv h
  have hl := (List.getElem?_eq_some_iff.1 hx).1
  have he := (List.getElem?_eq_some_iff.1 hx).2
  have hsp : l = l.take k ++ x :: l.drop (k + 1) := by
    rw [← he, ← List.drop_eq_getElem_cons hl, List.take_append_drop]
  refine ⟨l.take k, x, l.drop (k + 1), hsp, List.eraseIdx_eq_take_drop_succ l k, by rw [List.getD_eq_getElem?_getD, hx]; rfl, hx, hl, fun y hy => ?_⟩
  rcases List.mem_append.1 hy with hy | hy
  · obtain ⟨j, hj, rfl⟩ := List.getElem_of_mem hy
    rw [List.length_take] at hj
    exact hf j _ (by omega) (by rw [List.getElem_take]; exact List.getElem?_eq_getElem _)
  · obtain ⟨j, hj, rfl⟩ := List.getElem_of_mem hy
    rw [List.length_drop] at hj
    exact hf (k + 1 + j) _ (by omega) (by rw [List.getElem_drop]; exact List.getElem?_eq_getElem _)
/-- Where none is free, moves are circles. -/
theorem stuck {s : Int} {l : List Mv} (hk : OkM s l) (h : freeP l = none) : (l.map (·.2)).Nodup ∧ (∀ f ∈ l.map (·.2), f ∈ l.map (·.1)) ∧ ∀ f ∈ l.map (·.1), f ∈ l.map (·.2) := by
  have hs : ∀ t ∈ l.map (·.1), t ∈ l.map (·.2) := by
    intro t ht
    obtain ⟨x, hx, rfl⟩ := List.mem_map.1 ht
    obtain ⟨k, hkl, rfl⟩ := List.getElem_of_mem hx
    have := freeP_inv_none h k
    unfold FreeAt at this
    refine Classical.byContradiction fun hno => this ⟨_, List.getElem?_eq_getElem hkl, fun j y hj hy e => hno ?_⟩
    exact List.mem_map.2 ⟨y, List.mem_of_getElem? hy, e⟩
  obtain ⟨h1, h2⟩ := pig_eq hk.1 hs (by simp)
  exact ⟨h1, h2, hs⟩
theorem brk_head {s : Int} {x : Mv} {t : List Mv} (h : ((x :: t).map (·.2)).Nodup) : brk s x.2 (x :: t) = (x.1, s) :: t := by
  unfold brk
  rw [List.map_cons, if_pos rfl]
  congr 1
  rw [List.map_cons, List.nodup_cons] at h
  refine (List.map_congr_left fun y hy => ?_).trans (List.map_id _)
  rw [if_neg (fun e => h.1 (by rw [← e]; exact List.mem_map.2 ⟨y, hy, rfl⟩))]
  rfl
theorem ok_sub {s : Int} {a b : List Mv} {x : Mv} (h : OkM s (a ++ x :: b)) : OkM s (a ++ b) := by
  obtain ⟨h1, h2, h3⟩ := h
  have hsub : (a ++ b).Sublist (a ++ x :: b) := List.Sublist.append (List.Sublist.refl a) (List.sublist_cons_self x b)
  exact ⟨(hsub.map _).nodup h1, fun q => h2 ((hsub.map _).subset q), fun y hy => h3 y (hsub.subset hy)⟩
theorem ok_brk {s : Int} {x : Mv} {t : List Mv} (h : OkM s (x :: t)) : OkM s ((x.1, s) :: t) := by
  obtain ⟨h1, h2, h3⟩ := h
  refine ⟨h1, h2, fun y hy => ?_⟩
  rcases List.mem_cons.1 hy with rfl | hy
  · exact fun e => h2 (by simp at e; simp [e])
  · exact h3 y (by simp [hy])
theorem step_free {s : Int} {l a b : List Mv} {x : Mv} {k : Nat} (h : freeP l = some k) (he : l.eraseIdx k = a ++ b) (hd : l.getD k (0, 0) = x) : stepM s l = (x, a ++ b) := by
  unfold stepM
  rw [h]
  dsimp only
  rw [he, hd]
theorem step_stuck {s : Int} {x : Mv} {t : List Mv} (hk : OkM s (x :: t)) (h : freeP (x :: t) = none) : stepM s (x :: t) = ((s, x.2), (x.1, s) :: t) := by
  unfold stepM
  rw [h]
  dsimp only [List.headD_cons]
  rw [brk_head (stuck hk h).1]
theorem step_ok {s : Int} {l : List Mv} (hk : OkM s l) (hl : l ≠ []) : OkM s (stepM s l).2 := by
  cases h : freeP l with
  | some k =>
    obtain ⟨a, x, b, e, h1, h2, _⟩ := free_split h
    rw [step_free h h1 h2]
    exact ok_sub (x := x) (by rw [← e]; exact hk)
  | none =>
    match l, hl with
    | x :: t, _ =>
      rw [step_stuck hk h]
      exact ok_brk hk
/-- Behind a circle that is cut one is free. -/
theorem free_brk {s : Int} {x : Mv} {t : List Mv} (hk : OkM s (x :: t)) (h : freeP (x :: t) = none) : freeP ((x.1, s) :: t) ≠ none := by
  intro hno
  obtain ⟨h1, h2, h3⟩ := stuck hk h
  have hf : x.2 ∈ (x :: t).map (·.1) := h2 x.2 (by simp)
  obtain ⟨y, hy, e⟩ := List.mem_map.1 hf
  obtain ⟨j, hj, rfl⟩ := List.getElem_of_mem hy
  have hxs : x.2 ≠ s := fun e2 => hk.2.1 (by rw [← e2]; exact hf)
  refine freeP_inv_none hno j ?_
  have hlen : j < ((x.1, s) :: t).length := hj
  refine ⟨_, List.getElem?_eq_getElem hlen, fun i z hi hz => ?_⟩
  have hto : (((x.1, s) :: t)[j]).1 = x.2 := by
    rw [← e]
    cases j with
    | zero => rfl
    | succ j => rfl
  rw [hto]
  cases i with
  | zero =>
    simp at hz
    subst hz
    exact fun e => hxs e.symm
  | succ i =>
    rw [List.map_cons, List.nodup_cons] at h1
    intro e2
    exact h1.1 (by rw [← e2]; exact List.mem_map.2 ⟨z, List.mem_of_getElem? (by simpa using hz), rfl⟩)
theorem step_lt {s : Int} {l : List Mv} (hk : OkM s l) (hl : l ≠ []) : meas (stepM s l).2 < meas l := by
  cases h : freeP l with
  | some k =>
    obtain ⟨a, x, b, e, h1, h2, _⟩ := free_split h
    rw [step_free h h1 h2]
    unfold meas
    rw [h, e]
    simp only [List.length_append, List.length_cons]
    split <;> simp <;> omega
  | none =>
    match l, hl with
    | x :: t, _ =>
      rw [step_stuck hk h]
      unfold meas
      rw [h, if_neg (free_brk hk h), if_pos rfl]
      simp
theorem run_nil (s : Int) : runA s [] = [] := by unfold runA; cases h : meas [] <;> rfl
theorem run_more {s : Int} : ∀ (n : Nat) {l : List Mv}, OkM s l → meas l ≤ n → runM s n l = runA s l
  | 0, l, hk, h => by
    have : l = [] := List.eq_nil_of_length_eq_zero (by unfold meas at h; omega)
    subst this
    rw [run_nil]
    rfl
  | n + 1, [], hk, h => by rw [run_nil]; rfl
  | n + 1, x :: t, hk, h => by
    have hlt := step_lt hk (by simp : x :: t ≠ [])
    have hk2 := step_ok hk (by simp : x :: t ≠ [])
    rw [runM, run_more n hk2 (by omega)]
    unfold runA
    obtain ⟨m, hm⟩ : ∃ m, meas (x :: t) = m + 1 := ⟨meas (x :: t) - 1, by omega⟩
    rw [hm, runM]
    congr 1
    by_cases hmn : m = n
    · subst hmn
      exact (run_more m hk2 (by omega)).symm
    · exact (run_more m hk2 (by omega)).symm
  termination_by n => n
theorem run_step {s : Int} {l : List Mv} (hk : OkM s l) (hl : l ≠ []) : runA s l = (stepM s l).1 :: runA s (stepM s l).2 := by
  match l, hl with
  | x :: t, _ =>
    have hlt := step_lt hk (by simp : x :: t ≠ [])
    rw [← run_more (meas (x :: t)) hk (Nat.le_refl _)]
    obtain ⟨m, hm⟩ : ∃ m, meas (x :: t) = m + 1 := ⟨meas (x :: t) - 1, by omega⟩
    rw [hm, runM, run_more m (step_ok hk (by simp)) (by omega)]
/-! ### what moves do -/
def updF (R : Int → Int) (t v : Int) : Int → Int := fun r => if r = t then v else R r
def doF : List Mv → (Int → Int) → Int → Int
  | [], R => R
  | x :: t, R => doF t (updF R x.1 (R x.2))
def onceF (l : List Mv) (R : Int → Int) (r : Int) : Int := match lk l r with
  | some f => R f
  | none => R r
theorem do_run {s : Int} : ∀ (n : Nat) {l : List Mv}, meas l ≤ n → OkM s l → ∀ (R : Int → Int) (r : Int), r ≠ s → doF (runA s l) R r = onceF l R r
  | 0, l, h, hk, R, r, hr => by
    have : l = [] := List.eq_nil_of_length_eq_zero (by unfold meas at h; omega)
    subst this
    rw [run_nil]
    rfl
  | n + 1, l, h, hk, R, r, hr => by
    by_cases hl : l = []
    · subst hl
      rw [run_nil]
      rfl
    · have hlt := step_lt hk hl
      have hk2 := step_ok hk hl
      rw [run_step hk hl, doF, do_run n (by omega) hk2 _ r hr]
      cases hf : freeP l with
      | some k =>
        obtain ⟨a, x, b, e, h1, h2, _, _, h3⟩ := free_split hf
        rw [step_free hf h1 h2] at hk2 ⊢
        dsimp only at hk2 ⊢
        unfold onceF
        cases hq : lk l r with
        | none =>
          have hn := lk_none.1 hq
          rw [e] at hn
          have hn2 : lk (a ++ b) r = none := lk_none.2 (fun q => hn (by
            simp only [List.map_append, List.map_cons, List.mem_append, List.mem_cons] at q ⊢
            rcases q with q | q
            · exact .inl q
            · exact .inr (.inr q)))
          rw [hn2]
          dsimp only
          unfold updF
          rw [if_neg (fun e2 => hn (by rw [e2]; simp))]
        | some f =>
          have hm := lk_mem hq
          rw [e] at hm
          by_cases hx : r = x.1
          · have hnd := hk.1
            rw [e, List.map_append, List.map_cons, List.nodup_append] at hnd
            obtain ⟨na, nb, nab⟩ := hnd
            rw [List.nodup_cons] at nb
            have hn2 : lk (a ++ b) r = none := lk_none.2 (fun q => by
              rw [hx, List.map_append, List.mem_append] at q
              rcases q with q | q
              · exact nab _ q _ (by simp) rfl
              · exact nb.1 q)
            rw [hn2]
            dsimp only
            unfold updF
            rw [if_pos hx]
            have : (r, x.2) ∈ l := by rw [e, hx]; simp
            rw [mem_lk hk.1 this] at hq
            injection hq with hq
            rw [hq]
          · have hm2 : (r, f) ∈ a ++ b := by
              rcases List.mem_append.1 hm with hm | hm
              · exact List.mem_append.2 (.inl hm)
              · rcases List.mem_cons.1 hm with hm | hm
                · exact absurd (by rw [← hm]) hx
                · exact List.mem_append.2 (.inr hm)
            rw [mem_lk hk2.1 hm2]
            dsimp only
            unfold updF
            rw [if_neg (h3 _ hm2)]
      | none =>
        match l, hl with
        | x :: t, _ =>
          obtain ⟨p1, p2, p3⟩ := stuck hk hf
          rw [step_stuck hk hf] at hk2 ⊢
          dsimp only at hk2 ⊢
          unfold onceF lk
          by_cases hx : x.1 = r
          · rw [if_pos hx, if_pos hx]
            dsimp only
            unfold updF
            rw [if_pos rfl]
          · rw [if_neg hx, if_neg hx]
            cases hq : lk t r with
            | none =>
              dsimp only
              unfold updF
              rw [if_neg hr]
            | some f =>
              dsimp only
              unfold updF
              have hft := p2 f (List.mem_map.2 ⟨(r, f), List.mem_cons_of_mem _ (lk_mem hq), rfl⟩)
              rw [if_neg (fun e => hk.2.1 (by rw [← e]; exact hft))]
end Go.Proofs.Ytdnibhcpbdjhlaa
