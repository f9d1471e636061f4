/-
  symbc.Run's answer has the values that a machine on values has; from the start and from the entry alike. Conditions: those written in each statement.
-/
import Derived.Test.YtepagfkkjlbipaaVa
import Derived.Test.YtepagfkkjlbipaaLam
namespace Go.Proofs.Ytepagfkkjlbipaa
open Go.RowKit
set_option linter.unusedVariables false
set_option linter.unusedSimpArgs false
set_option maxRecDepth 100000
/-- What Run answers, in values. -/
structure RunVal (vs : List Int) (r : RunD) (q : VM) (x : ExD) : Prop where
  err : r.err = 0
  av : AV vs r.p
  regs : RV vs r.p r.regs q.regs
  evs : EvsR vs r.p r.evs q.evs
  kind : r.ex.kind = x.kind
  tgt : r.ex.tgt = x.tgt
  els : r.ex.els = x.els
  v : r.ex.kind ≠ 1 → evP r.p.T vs r.ex.v = some x.v
def qOf (vs rv : List Int) (l : List ID) (block : Int) : VM := goVV vs ⟨rv, [], 0⟩ (insOf l (blkAt l block))
def xOf (vs rv : List Int) (l : List ID) (block : Int) : ExD := endsV (qOf vs rv l block) (l.getD ((blkAt l block).upto - 1).toNat noIns) (blkAt l block).next
section
variable {vs : List Int} (hU : ∀ v ∈ vs, U64 v)
include hU
theorem run_val (hlen : 38 + 3 * 64 < vs.length) {p : PS} {c : Int} {l : List ID} {block : Int} {regs rv : List Int} {k : Nat} (h : MI (SM.mk p regs [] 0) (k + 1950) 1) (hc : (chkP c l).2 = 0) (ha : askB p l block regs = true) (hav : AV vs p) (hr : RV vs p regs rv) :
    RunVal vs (runV p c l block regs) (qOf vs rv l block) (xOf vs rv l block) := by
  obtain ⟨m, q, R⟩ := run_fits h hc ha
  obtain ⟨hm, hl⟩ := ins_may hc (x := blkAt l block)
  have h1 : MI (SM.mk p regs [] 0) (k + 30 + 30 * (insOf l (blkAt l block)).length) 1 := ⟨h.rm.less (by omega), h.len, h.reg, h.err, h.vi⟩
  have hb0 : bringsN (SM.mk p regs [] 0).evs = 0 := rfl
  have V0 : MV vs (SM.mk p regs [] 0) ⟨rv, [], 0⟩ := ⟨hav, hr, ⟨rfl, fun i e f he => by cases he⟩, rfl⟩
  have V := go_val hU hlen (insOf l (blkAt l block)) h1 (by omega) (by omega) (by rw [hb0]; omega) hm V0
  have hq := R.eqm
  unfold goV at hq
  rw [hq] at V
  obtain ⟨e1, e2, e3, e4, e5⟩ := ends_val hU (k := k) R.mi (by omega) (last_may hc (ask_blk ha)) (blkAt l block).next V
  rw [R.eqq] at e1 e2 e3 e4 e5
  rw [R.run]
  refine ⟨rfl, e1, ?_, ?_, e2, e3, e4, e5⟩
  · show RV vs q.1.p q.1.regs _
    rw [R.rgs]
    exact V.regs.up R.mi.rm.wf R.rm.wf R.exq
  · show EvsR vs q.1.p q.1.evs _
    rw [R.evs]
    exact V.evs.up R.mi.rm.wf R.rm.wf R.exq
end
/-! ### the start, the entry -/
theorem atP_in {T : List TD} {n : Int} {i : Nat} {t : TD} (hn : n = (i : Int)) (h : T[i]? = some t) : atP T n = t ∧ hasB T n = true := by
  have hl := (List.getElem?_eq_some_iff.1 h).1
  subst hn
  have hh : hasB T (i : Int) = true := by unfold hasB; simp; omega
  refine ⟨?_, hh⟩
  unfold atP
  rw [if_pos hh, Int.toNat_natCast, List.getD_eq_getElem?_getD, h]
  rfl
/-- Variables and constants have values. -/
theorem av_plain {vs : List Int} {p : PS} (hw : WfP p) (h : ∀ t ∈ p.T, t.kind = 0 ∨ (t.kind = 1 ∧ t.n.toNat < vs.length)) : AV vs p := by
  intro n hn
  obtain ⟨i, rfl, hi⟩ := has_ix hn
  rw [evP_eq hw hn]
  unfold evT
  rcases h _ (List.mem_of_getElem? hi) with h0 | ⟨h1, h2⟩
  · rw [if_neg (by omega), if_neg (by omega), if_neg (by omega), if_neg (by omega), if_neg (by omega)]
    exact ⟨_, rfl⟩
  · rw [if_pos h1, List.getElem?_eq_getElem h2]
    exact ⟨_, rfl⟩
theorem rv_start {vs : List Int} (hl : 11 ≤ vs.length) : AV vs P0 ∧ RV vs P0 R0 (vs.take 11) := by
  refine ⟨av_plain P0_good.1 fun t ht => .inr ⟨P0_kind t ht, ?_⟩, rfl, by rw [List.length_take]; omega, fun i hi => ?_⟩
  · obtain ⟨i, hi⟩ := List.getElem?_of_mem ht
    have hlt := (List.getElem?_eq_some_iff.1 hi).1
    have hn : P0.T.length = 11 := rfl
    have : t = varT (i : Int) 64 := by
      have e : P0.T[i]? = some (varT (i : Int) 64) := by
        show ((List.range 11).map (fun (i : Nat) => varT (i : Int) 64))[i]? = _
        rw [List.getElem?_map, List.getElem?_range (by omega)]
        rfl
      rw [e] at hi
      exact (Option.some.inj hi).symm
    rw [this]
    show (i : Int).toNat < _
    omega
  · have hr : R0.getD i 0 = (i : Int) := by
      show ((List.range 11).map (fun (i : Nat) => (i : Int))).getD i 0 = _
      rw [List.getD_eq_getElem?_getD, List.getElem?_map, List.getElem?_range hi]
      rfl
    have e : P0.T[i]? = some (varT (i : Int) 64) := by
      show ((List.range 11).map (fun (i : Nat) => varT (i : Int) 64))[i]? = _
      rw [List.getElem?_map, List.getElem?_range hi]
      rfl
    obtain ⟨h1, h2⟩ := atP_in hr e
    rw [evP_eq P0_good.1 h2, h1]
    show (vs[(i : Int).toNat]?).map (cutV 64) = _
    rw [Int.toNat_natCast, List.getElem?_eq_getElem (by omega), List.getD_eq_getElem?_getD, List.getElem?_take, if_pos hi, List.getElem?_eq_getElem (by omega)]
    show some (cutV 64 vs[i]) = some vs[i]
    rw [cut64]
def PE : PS := ⟨[constT 0, constT 2097152, constT 3145792], [1, 1, 1]⟩
def RE : List Int := [0, 1, 0, 0, 0, 0, 0, 0, 0, 0, 2]
def VE : List Int := [0, 2097152, 0, 0, 0, 0, 0, 0, 0, 0, 3145792]
theorem entry_empty : eachV entryS ⟨[], []⟩ = (PE, RE, 0) := by kernel_rfl
theorem PE_good : WfP PE ∧ (∀ t ∈ PE.T, t.wf) ∧ ∀ r ∈ RE, hasB PE.T r = true := by
  obtain ⟨_, h2, h3, h4⟩ := eachK_good entry_good wf_nil.1 wf_nil.2 11 (Nat.le_refl _)
  have e : eachK entryS ⟨[], []⟩ 11 = (PE, RE, 0) := by kernel_rfl
  rw [e] at h2 h3 h4
  exact ⟨h2, h3, h4 rfl⟩
theorem PE_kind : ∀ t ∈ PE.T, t.kind = 0 := by decide
theorem PE_rm : Rm PE 3900 := ⟨PE_good.1, PE_good.2.1, nz_of (fun t ht => by rw [PE_kind t ht]; decide), aa_of (fun t ht => by rw [PE_kind t ht]; decide), by decide⟩
theorem RE_low : ∀ r ∈ RE, dpP PE r ≤ 1 := by decide
theorem PE_mi : MI (SM.mk PE RE [] 0) 3900 1 := ⟨PE_rm, rfl, fun r hr => ⟨PE_good.2.2 r hr, RE_low r hr⟩, rfl, fun t ht hk => by rw [PE_kind t ht] at hk; cases hk⟩
theorem rv_entry (vs : List Int) : AV vs PE ∧ RV vs PE RE VE := by
  refine ⟨av_plain PE_good.1 fun t ht => .inl (PE_kind t ht), rfl, rfl, fun i hi => ?_⟩
  have key : ∀ (n : Int) (j : Nat) (v : Int), n = (j : Int) → PE.T[j]? = some (constT v) → evP PE.T vs n = some v := fun n j v hn h => by
    obtain ⟨h1, h2⟩ := atP_in hn h
    rw [evP_eq PE_good.1 h2, h1]
    rfl
  match i, hi with
  | 0, _ => exact key _ 0 0 rfl rfl
  | 1, _ => exact key _ 1 2097152 rfl rfl
  | 2, _ => exact key _ 0 0 rfl rfl
  | 3, _ => exact key _ 0 0 rfl rfl
  | 4, _ => exact key _ 0 0 rfl rfl
  | 5, _ => exact key _ 0 0 rfl rfl
  | 6, _ => exact key _ 0 0 rfl rfl
  | 7, _ => exact key _ 0 0 rfl rfl
  | 8, _ => exact key _ 0 0 rfl rfl
  | 9, _ => exact key _ 0 0 rfl rfl
  | 10, _ => exact key _ 2 3145792 rfl rfl
theorem chk_errs (c : Int) (l : List ID) : (chkP c l).2 ≠ 260 := by
  unfold chkP
  split
  · show (2 : Int) ≠ 260
    decide
  split
  · show (3 : Int) ≠ 260
    decide
  cases hb : badAt l.length l 0 with
  | some r =>
    have := bad_pos l 0 r hb
    show r.2 ≠ 260
    omega
  | none =>
    dsimp only
    split
    · show (33 : Int) ≠ 260
      decide
    · show (0 : Int) ≠ 260
      decide
/-- The two runs' answers, side by side. -/
structure Sides (vs : List Int) (x y : RunD) : Prop where
  err : x.err = y.err
  lim : x.err ≠ 260
  evs : x.evs.length = y.evs.length
  kind : x.ex.kind = y.ex.kind
  tgt : x.ex.tgt = y.ex.tgt
  els : x.ex.els = y.ex.els
  reg : x.err = 0 → ∀ i, i < 11 → ∃ v, evP x.p.T vs (x.regs.getD i 0) = some v ∧ evP y.p.T vs (y.regs.getD i 0) = some v
  ev : x.err = 0 → ∀ (i : Nat) e f, x.evs[i]? = some e → y.evs[i]? = some f → e.kind = f.kind ∧ e.size = f.size ∧ (e.kind ≠ 2 → ∃ v, evP x.p.T vs e.a = some v ∧ evP y.p.T vs f.a = some v)
theorem sides {vs : List Int} (hU : ∀ v ∈ vs, U64 v) (hlen : 38 + 3 * 64 < vs.length) (h11 : vs.take 11 = VE) (c : Int) (l : List ID) (block : Int) : Sides vs (runV P0 c l block R0) (runV PE c l block RE) := by
  by_cases hc : (chkP c l).2 = 0
  · have hask : askB PE l block RE = askB P0 l block R0 := by
      unfold askB
      rw [(regsB_ext PE_good.2.2 (Ext.refl _)).1, (regsB_ext P0_good.2.2 (Ext.refl _)).1]
    cases ha : askB P0 l block R0
    · rw [run_arg hc ha, run_arg hc (hask.trans ha)]
      exact ⟨rfl, by show (2 : Int) ≠ 260; decide, rfl, rfl, rfl, rfl, fun h => absurd h (by show (2 : Int) ≠ 0; decide), fun h => absurd h (by show (2 : Int) ≠ 0; decide)⟩
    · have hs := rv_start (vs := vs) (by omega)
      have he := rv_entry vs
      rw [h11] at hs
      have X := run_val hU hlen (k := 1950) P0_mi hc ha hs.1 hs.2
      have Y := run_val hU hlen (k := 1950) PE_mi hc (hask.trans ha) he.1 he.2
      refine ⟨by rw [X.err, Y.err], by rw [X.err]; decide, by rw [X.evs.len, Y.evs.len], by rw [X.kind, Y.kind], by rw [X.tgt, Y.tgt], by rw [X.els, Y.els], fun _ i hi => ⟨_, X.regs.reg i hi, Y.regs.reg i hi⟩, fun _ i e f h1 h2 => ?_⟩
      have hil := (List.getElem?_eq_some_iff.1 h1).1
      have hiq : i < (qOf vs VE l block).evs.length := by rw [← X.evs.len]; exact hil
      have A := X.evs.ev i e _ h1 (List.getElem?_eq_getElem hiq)
      have B := Y.evs.ev i f _ h2 (List.getElem?_eq_getElem hiq)
      exact ⟨by rw [A.kind, B.kind], by rw [A.size, B.size], fun hk => ⟨_, A.at_ hk, B.at_ (by rw [B.kind, ← A.kind]; exact hk)⟩⟩
  · have hx := chk_errs c l
    rw [run_bad hc, run_bad hc]
    exact ⟨rfl, by show (chkP c l).2 ≠ 260; exact hx, rfl, rfl, rfl, rfl, fun h => absurd h hc, fun h => absurd h hc⟩
end Go.Proofs.Ytepagfkkjlbipaa
