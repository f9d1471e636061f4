/-
  Plain words on moves turned round: as many circles, and what was put about stands again where it stood. Conditions: those written in each statement.
-/
import Derived.Test.YtdnibhcpbdjhlaaLo
namespace Go.Proofs.Ytdnibhcpbdjhlaa
set_option linter.unusedVariables false
set_option linter.unusedSimpArgs false
def swM (x : Mv) : Mv := (x.2, x.1)
def bkL (l : List Mv) : List Mv := l.map swM
theorem bk_fst (l : List Mv) : (bkL l).map (·.1) = l.map (·.2) := by unfold bkL; rw [List.map_map]; rfl
theorem bk_snd (l : List Mv) : (bkL l).map (·.2) = l.map (·.1) := by unfold bkL; rw [List.map_map]; rfl
theorem bk_mem {l : List Mv} {a b : Int} : (a, b) ∈ bkL l ↔ (b, a) ∈ l := by
  unfold bkL
  rw [List.mem_map]
  constructor
  · rintro ⟨⟨x, y⟩, h, e⟩
    unfold swM at e
    injection e with e1 e2
    subst e1 e2
    exact h
  · intro h
    exact ⟨_, h, rfl⟩
theorem bk_runL (l : List Mv) : (runL (bkL l)).length = (runL l).length := by
  unfold runL bkL
  rw [List.filter_map, List.length_map]
  congr 1
  refine List.filter_congr fun x _ => ?_
  show nsB (swM x) = nsB x
  unfold nsB swM
  dsimp only
  congr 1
  exact BEq.comm
section
variable {l : List Mv} (h1 : (l.map (·.1)).Nodup) (h2 : (l.map (·.2)).Nodup)
include h1 h2
theorem bk_lk {a b : Int} : lk (bkL l) a = some b ↔ lk l b = some a := by
  rw [lk_iff (by rw [bk_fst]; exact h2), lk_iff h1, bk_mem]
theorem bk_itr : ∀ (n : Nat) (a b : Int), itr (bkL l) n a = some b ↔ itr l n b = some a
  | 0, a, b => by
    show some a = some b ↔ some b = some a
    exact ⟨fun h => h.symm, fun h => h.symm⟩
  | n + 1, a, b => by
    have e1 : itr (bkL l) (n + 1) a = (lk (bkL l) a).bind (itr (bkL l) n) := by
      rw [show n + 1 = 1 + n by omega, itr_add]
      rfl
    rw [e1, itr]
    constructor
    · intro h
      cases hq : lk (bkL l) a with
      | none => rw [hq] at h; cases h
      | some p =>
        rw [hq] at h
        rw [(bk_itr n p b).1 h]
        exact (bk_lk h1 h2).1 hq
    · intro h
      cases hq : itr l n b with
      | none => rw [hq] at h; cases h
      | some p =>
        rw [hq] at h
        rw [(bk_lk h1 h2).2 h]
        exact (bk_itr n p b).2 hq
theorem bk_onc {r : Int} : OnC (bkL l) r ↔ OnC l r := by
  constructor
  · rintro ⟨n, h, e⟩
    exact ⟨n, h, (bk_itr h1 h2 n r r).1 e⟩
  · rintro ⟨n, h, e⟩
    exact ⟨n, h, (bk_itr h1 h2 n r r).2 e⟩
theorem bk_lst {r : Int} : Lst (bkL l) r ↔ Lst l r := by
  constructor
  · rintro ⟨h, hm⟩
    refine ⟨(bk_onc h1 h2).1 h, fun n q e => ?_⟩
    obtain ⟨_, m, e2⟩ := onc_step ((bk_onc h1 h2).1 h) e
    exact hm m q ((bk_itr h1 h2 m r q).2 e2)
  · rintro ⟨h, hm⟩
    refine ⟨(bk_onc h1 h2).2 h, fun n q e => ?_⟩
    obtain ⟨_, m, e2⟩ := onc_step ((bk_onc h1 h2).2 h) e
    exact hm m q ((bk_itr h1 h2 m q r).1 e2)
theorem bk_cyc {c : Nat} (h : CycN l c) : CycN (bkL l) c :=
  cyc_same (fun r => by
    rw [bk_lst h1 h2]
    exact ⟨fun ⟨a, b⟩ => ⟨a, fun e => b ((bk_lk h1 h2).1 e)⟩, fun ⟨a, b⟩ => ⟨a, fun e => b ((bk_lk h1 h2).2 e)⟩⟩) h
end
/-- What the moves put about, the moves turned round put back. -/
theorem bk_back {l : List Mv} {s : Int} {R : List Int} (he : runE l s = 0) (hf : runE (bkL l) s = 0) (hends : ∀ x ∈ l, x.2 ∈ l.map (·.1)) (hR : R.length = 16) {r : Int} (h0 : 0 ≤ r) (h1 : r < 16) (hs : r ≠ s) :
    valF (doL (runO (bkL l) s) (doL (runO l s) R)) r = valF R r := by
  obtain ⟨hreg, _, hn1⟩ := may_regs (runE_zero he).2.1
  obtain ⟨_, _, hn2⟩ := may_regs (runE_zero hf).2.1
  rw [bk_fst] at hn2
  have hns : ∀ x ∈ l, x.1 ≠ s ∧ x.2 ≠ s := fun x hx => (may_iff.1 (runE_zero he).2.1).1 x hx
  rw [run_once hf (by rw [doL_len, hR]) h0 h1 hs]
  unfold onceF
  cases hq : lk (bkL l) r with
  | some f =>
    have hm : (f, r) ∈ l := by
      have := lk_mem hq
      exact bk_mem.1 this
    have hfr := (hreg _ hm).1
    show valF (doL (runO l s) R) f = _
    rw [run_once he hR hfr.1 hfr.2 (hns _ hm).1]
    unfold onceF
    rw [(bk_lk hn1 hn2).1 hq]
  | none =>
    show valF (doL (runO l s) R) r = _
    rw [run_once he hR h0 h1 hs]
    unfold onceF
    have h3 : r ∉ l.map (·.2) := by
      have := lk_none.1 hq
      rwa [bk_fst] at this
    have h4 : r ∉ l.map (·.1) := fun h => h3 ((pig_eq hn2 (fun x hx => by
      obtain ⟨y, hy, rfl⟩ := List.mem_map.1 hx
      exact hends y hy) (by simp)).2 r h)
    rw [lk_none.2 h4]
theorem list_val {X R : List Int} (hX : X.length = 16) (hR : R.length = 16) (h : ∀ r : Nat, r < 16 → valF X r = valF R r) : X = R := by
  refine List.ext_getElem (by omega) fun i hi hj => ?_
  have := h i (by omega)
  unfold valF at this
  rw [Int.toNat_natCast, List.getD_eq_getElem?_getD, List.getD_eq_getElem?_getD, List.getElem?_eq_getElem hi, List.getElem?_eq_getElem hj] at this
  exact this
theorem bk_regs {l : List Mv} {s : Int} {R : List Int} (he : runE l s = 0) (hf : runE (bkL l) s = 0) (hends : ∀ x ∈ l, x.2 ∈ l.map (·.1)) (hR : R.length = 16) :
    (doL (runO (bkL l) s) (doL (runO l s) R)).set s.toNat (valF R s) = R := by
  have hs := (may_regs (runE_zero he).2.1).2.1
  refine list_val (by rw [List.length_set, doL_len, doL_len, hR]) hR fun r hr => ?_
  by_cases e : (r : Int) = s
  · subst e
    unfold valF
    rw [Int.toNat_natCast, List.getD_eq_getElem?_getD, List.getElem?_set_self (by rw [doL_len, doL_len, hR]; exact hr)]
    rfl
  · rw [← bk_back he hf hends hR (Int.natCast_nonneg r) (by omega) e]
    unfold valF
    rw [Int.toNat_natCast, List.getD_eq_getElem?_getD, List.getElem?_set_ne (by omega), List.getD_eq_getElem?_getD]
theorem bk_len {l : List Mv} {s : Int} (he : runE l s = 0) (hf : runE (bkL l) s = 0) {c : Nat} (hc : CycN l c) : CycN (bkL l) c ∧ (runO (bkL l) s).length = (runO l s).length := by
  obtain ⟨_, _, hn1⟩ := may_regs (runE_zero he).2.1
  obtain ⟨_, _, hn2⟩ := may_regs (runE_zero hf).2.1
  rw [bk_fst] at hn2
  have h := bk_cyc hn1 hn2 hc
  exact ⟨h, by rw [runO_len hf h, runO_len he hc, bk_runL]⟩
theorem runE_ok {l : List Mv} {s : Int} (h1 : l.length ≤ 16) (h2 : mayM l s = true) : runE l s = 0 := by
  unfold runE
  rw [if_neg (by omega), h2]
  rfl
theorem bkL_take {l : List Mv} {k : Nat} {x : Mv} (h : l[k]? = some x) : bkL (l.take (k + 1)) = bkL (l.take k) ++ [swM x] := by
  unfold bkL
  rw [List.take_add_one, h, Option.toList_some, List.map_append]
  rfl
end Go.Proofs.Ytdnibhcpbdjhlaa
