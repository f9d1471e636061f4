/-
  moves.Once: what moves do all at once. Conditions: those written in each statement.
-/
import Derived.Test.YtdnibhcpbdjhlaaLa
import Derived.Test.YtdnibhcpbdjhlaaMx
import Derived.Test.YtdnibhcpbdjhlaaEq
namespace Go.Proofs.Ytdnibhcpbdjhlaa
open Go.RowKit
set_option linter.unusedVariables false
set_option linter.unusedSimpArgs false
def setO (W R : List Int) (x : Mv) : List Int := R.set x.1.toNat (W.getD x.2.toNat 0)
def oncL : List Mv → List Int → List Int → List Int
  | [], W, R => R
  | x :: t, W, R => oncL t W (setO W R x)
theorem oncL_snoc : ∀ (l : List Mv) (x : Mv) (W R : List Int), oncL (l ++ [x]) W R = setO W (oncL l W R) x
  | [], x, W, R => rfl
  | y :: t, x, W, R => by rw [List.cons_append, oncL, oncL_snoc t x, oncL]
theorem oncL_take {l : List Mv} {k : Nat} {x : Mv} (h : l[k]? = some x) (W R : List Int) : oncL (l.take (k + 1)) W R = setO W (oncL (l.take k) W R) x := by
  rw [List.take_add_one, h, Option.toList_some, oncL_snoc]
theorem oncL_len : ∀ (l : List Mv) (W R : List Int), (oncL l W R).length = R.length
  | [], W, R => rfl
  | x :: t, W, R => by rw [oncL, oncL_len t]; simp [setO]
theorem oncL_all {p : Int → Prop} (h0 : p 0) : ∀ (l : List Mv) (W R : List Int), (∀ x ∈ W, p x) → (∀ x ∈ R, p x) → ∀ x ∈ oncL l W R, p x
  | [], W, R, _, h => h
  | x :: t, W, R, hW, h => by
    rw [oncL]
    refine oncL_all h0 t W _ hW fun y hy => ?_
    unfold setO at hy
    rcases List.mem_or_eq_of_mem_set hy with q | rfl
    · exact h y q
    · rw [List.getD_eq_getElem?_getD]
      cases e : W[x.2.toNat]? with
      | none => exact h0
      | some v => exact hW v (List.mem_of_getElem? e)
theorem oncL_val : ∀ (l : List Mv) (W R : List Int), R.length = 16 → Regs l → (l.map (·.1)).Nodup → ∀ r, 0 ≤ r → r < 16 → valF (oncL l W R) r = match lk l r with | some f => valF W f | none => valF R r
  | [], W, R, _, _, _, r, _, _ => rfl
  | x :: t, W, R, hR, hr, hn, r, h0, h1 => by
    rw [List.map_cons, List.nodup_cons] at hn
    have hx := hr x (by simp)
    rw [oncL, oncL_val t W _ (by unfold setO; rw [List.length_set, hR]) (fun y hy => hr y (by simp [hy])) hn.2 r h0 h1, show lk (x :: t) r = if x.1 = r then some x.2 else lk t r from rfl]
    by_cases e : x.1 = r
    · have hnn : lk t r = none := lk_none.2 (by rw [← e]; exact hn.1)
      rw [if_pos e, hnn]
      show valF (setO W R x) r = valF W x.2
      unfold valF setO
      rw [e, List.getD_eq_getElem?_getD, List.getElem?_set_self (by omega)]
      rfl
    · rw [if_neg e]
      cases lk t r with
      | some f => rfl
      | none =>
        show valF (setO W R x) r = valF R r
        unfold valF setO
        rw [List.getD_eq_getElem?_getD, List.getElem?_set_ne (by omega), ← List.getD_eq_getElem?_getD]
theorem oncL_once {l : List Mv} {R : List Int} (hR : R.length = 16) (hr : Regs l) (hn : (l.map (·.1)).Nodup) {r : Int} (h0 : 0 ≤ r) (h1 : r < 16) : valF (oncL l R R) r = onceF l (valF R) r := by
  rw [oncL_val l R R hR hr hn r h0 h1]
  unfold onceF
  cases lk l r <;> rfl
def tkL : List Mv → List Bool → List Bool
  | [], T => T
  | x :: t, T => tkL t (T.set x.1.toNat true)
theorem tkL_snoc : ∀ (l : List Mv) (x : Mv) (T : List Bool), tkL (l ++ [x]) T = (tkL l T).set x.1.toNat true
  | [], x, T => rfl
  | y :: t, x, T => by rw [List.cons_append, tkL, tkL_snoc t x, tkL]
theorem tkL_take {l : List Mv} {k : Nat} {x : Mv} (h : l[k]? = some x) (T : List Bool) : tkL (l.take (k + 1)) T = (tkL (l.take k) T).set x.1.toNat true := by
  rw [List.take_add_one, h, Option.toList_some, tkL_snoc]
theorem tkL_len : ∀ (l : List Mv) (T : List Bool), (tkL l T).length = T.length
  | [], T => rfl
  | x :: t, T => by rw [tkL, tkL_len t, List.length_set]
theorem tkL_no : ∀ (l : List Mv) (T : List Bool) (i : Nat), Regs l → (i : Int) ∉ l.map (·.1) → (tkL l T)[i]? = T[i]?
  | [], T, i, _, _ => rfl
  | x :: t, T, i, hr, hn => by
    rw [List.map_cons, List.mem_cons, not_or] at hn
    have hx := hr x (by simp)
    rw [tkL, tkL_no t _ i (fun y hy => hr y (by simp [hy])) hn.2, List.getElem?_set_ne (by omega)]
def bC (T : List Bool) : List Value := T.map Value.bool
theorem okR : eqOk Try.prog 4 25 = true := by kernel_rfl
theorem aggR : aggT Try.prog 25 = true := by kernel_rfl
theorem all_regs {R : List Int} (hR : R.length = 16) (hU : ∀ x ∈ R, U64 x) : AllK (List.replicate 16 (some .u64)) (uC R) := by
  refine ⟨by simp [uC, hR], fun i k v hk hv => ?_⟩
  obtain ⟨_, rfl⟩ : i < 16 ∧ some .u64 = k := by
    rw [List.getElem?_replicate] at hk
    split at hk
    · injection hk with hk
      exact ⟨by omega, hk⟩
    · cases hk
  unfold uC at hv
  rw [List.getElem?_map] at hv
  cases e : R[i]? with
  | none => rw [e] at hv; cases hv
  | some x =>
    rw [e] at hv
    injection hv with hv
    exact ⟨x, hv.symm, by have := hU x (List.mem_of_getElem? e); unfold U64 at this; exact WalkArith.wf_u64 (by omega)⟩
theorem eql_regs {R S : List Int} (hR : R.length = 16) (hU : ∀ x ∈ R, U64 x) (hS : S.length = 16) (hV : ∀ x ∈ S, U64 x) (w : World) :
    (binOp .eql 25 (.agg (uC R).toArray) (.agg (uC S).toArray)).run Try.prog w = .ok (.bool (eqL (uC R) (uC S))) w :=
  run_eql_flat (by omega) flatR okR aggR (all_regs hR hU) (all_regs hS hV) w
theorem eq_regs {R S : List Int} (hR : R.length = 16) (hU : ∀ x ∈ R, U64 x) (hS : S.length = 16) (hV : ∀ x ∈ S, U64 x) (h : eqL (uC R) (uC S) = true) : uC R = uC S :=
  (eqL_iff _ _ _ (all_regs hR hU) (all_regs hS hV)).1 h
def OnP (l : List Mv) (R : List Int) (w : World) (e : Ending) (w' : World) : Prop := e = .returned (.agg (uC (oncL l R R)).toArray) ∧ Below w.heap.size w w'
structure OnF (A : Option Addr) (n gw gt : Nat) (l : List Mv) (R Rk : List Int) (T : List Bool) (w W : World) : Prop where
  regs : Blk W w.heap.size 25 (uC Rk).toArray
  res : Blk W (w.heap.size + 1) 25 (uC (List.replicate 16 0)).toArray
  was : Blk W gw 25 (uC R).toArray
  tak : Blk W gt 45 (bC T).toArray
  mvs : MvsAt W w.heap.size A n l
  below : Below w.heap.size w W
section
variable {A : Option Addr} {n gw gt : Nat} {l : List Mv} {R Rk : List Int} {T : List Bool} {w W V : World}
theorem OnF.step (h : OnF A n gw gt l R Rk T w W) (hb : Below W.heap.size W V) : OnF A n gw gt l R Rk T w V :=
  ⟨h.regs.below hb h.regs.lt, h.res.below hb h.res.lt, h.was.below hb h.was.lt, h.tak.below hb h.tak.lt, h.mvs.below (hb.mono h.below.size), h.below.trans (hb.mono h.below.size)⟩
/-- Both writes. -/
theorem OnF.set2 (h : OnF A n gw gt l R Rk T w W) (h1 : w.heap.size + 2 ≤ gw) (h2 : gw < gt) (a : Nat) (v : Int) : OnF A n gw gt l R (Rk.set a v) (T.set a true) w ((W.setCell ⟨w.heap.size, a, none⟩ (.int .u64 v)).setCell ⟨gt, a, none⟩ (.bool true)) := by
  have e1 : (uC Rk).toArray.setIfInBounds a (.int .u64 v) = (uC (Rk.set a v)).toArray := by
    unfold uC
    rw [List.map_set]
    simp
  have e2 : (bC T).toArray.setIfInBounds a (.bool true) = (bC (T.set a true)).toArray := by
    unfold bC
    rw [List.map_set]
    simp
  have q1 : w.heap.size ≠ gt := by omega
  have q2 : w.heap.size + 1 ≠ gt := by omega
  have q3 : gw ≠ gt := by omega
  have q4 : gw ≠ w.heap.size := by omega
  have q5 : gt ≠ w.heap.size := by omega
  have q6 : w.heap.size ≤ gt := by omega
  refine ⟨?_, (h.res.far (p := ⟨w.heap.size, a, none⟩) (by simp) _).far (p := ⟨gt, a, none⟩) q2 _, (h.was.far (p := ⟨w.heap.size, a, none⟩) q4 _).far (p := ⟨gt, a, none⟩) q3 _, ?_, ?_, ?_⟩
  · rw [← e1]
    exact (h.regs.set_ a _).far (p := ⟨gt, a, none⟩) q1 _
  · rw [← e2]
    exact (h.tak.far (p := ⟨w.heap.size, a, none⟩) q5 _).set_ a _
  · exact ⟨h.mvs.1, h.mvs.2.1, (h.mvs.2.2.setCell (p := ⟨w.heap.size, a, none⟩) (Nat.le_refl _) _).setCell (p := ⟨gt, a, none⟩) q6 _⟩
  · exact (h.below.setCell (p := ⟨w.heap.size, a, none⟩) (Nat.le_refl _) _).setCell (p := ⟨gt, a, none⟩) q6 _
theorem OnF.set2b (h : OnF A n gw gt l R Rk T w W) (h1 : w.heap.size + 2 ≤ gw) (h2 : gw < gt) (a : Nat) (v : Int) : OnF A n gw gt l R (Rk.set a v) (T.set a true) w ((W.setCell ⟨gt, a, none⟩ (.bool true)).setCell ⟨w.heap.size, a, none⟩ (.int .u64 v)) := by
  have e1 : (uC Rk).toArray.setIfInBounds a (.int .u64 v) = (uC (Rk.set a v)).toArray := by
    unfold uC
    rw [List.map_set]
    simp
  have e2 : (bC T).toArray.setIfInBounds a (.bool true) = (bC (T.set a true)).toArray := by
    unfold bC
    rw [List.map_set]
    simp
  have q1 : w.heap.size ≠ gt := by omega
  have q2 : w.heap.size + 1 ≠ gt := by omega
  have q3 : gw ≠ gt := by omega
  have q4 : gw ≠ w.heap.size := by omega
  have q5 : gt ≠ w.heap.size := by omega
  have q6 : w.heap.size ≤ gt := by omega
  refine ⟨?_, (h.res.far (p := ⟨gt, a, none⟩) q2 _).far (p := ⟨w.heap.size, a, none⟩) (by simp) _, (h.was.far (p := ⟨gt, a, none⟩) q3 _).far (p := ⟨w.heap.size, a, none⟩) q4 _, ?_, ?_, ?_⟩
  · rw [← e1]
    exact (h.regs.far (p := ⟨gt, a, none⟩) q1 _).set_ a _
  · rw [← e2]
    exact (h.tak.set_ a _).far (p := ⟨w.heap.size, a, none⟩) q5 _
  · exact ⟨h.mvs.1, h.mvs.2.1, (h.mvs.2.2.setCell (p := ⟨gt, a, none⟩) q6 _).setCell (p := ⟨w.heap.size, a, none⟩) (Nat.le_refl _) _⟩
  · exact (h.below.setCell (p := ⟨gt, a, none⟩) q6 _).setCell (p := ⟨w.heap.size, a, none⟩) (Nat.le_refl _) _
end
theorem bel_dN {B : Nat} {w : World} (m : Nat) : Below B w (w.drewN m) := by
  have := Below.refl B w
  exact ⟨this.os, this.tape, this.output, this.size, this.block⟩
def OnRel (A : Option Addr) (n gw gt : Nat) (l : List Mv) (R : List Int) (w : World) (i : Value) (wr : World) : Prop := ∃ k : Nat, k ≤ n ∧ i = .int .i64 k ∧ OnF A n gw gt l R (oncL (l.take k) R R) (tkL (l.take k) (List.replicate 16 false)) w wr
set_option maxRecDepth 100000 in
set_option maxHeartbeats 4000000 in
theorem once_any (A : Option Addr) (n c : Nat) (l : List Mv) (R : List Int) (w : World) (hh : MvsAt w w.heap.size A n l) (hR : R.length = 16) (hU : ∀ x ∈ R, U64 x) (hr : Regs l) (hn : (l.map (·.1)).Nodup) (hm : n < 9223372036854775807) :
    Calls Try.prog 17 #[.slice A n c, .agg (uC R).toArray] w (OnP l R w) := by
  have HL := hide hh.1
  have HH := hide hh
  have HR := hide hR
  have HU := hide hU
  have HG := hide hr
  have HN := hide hn
  have HUL := hide (show (uC R).length = 16 by unfold uC; rw [List.length_map, hR])
  clear hh hR hU hr hn
  obtain ⟨iU, hiU, hzU, hsU, hbU⟩ := info_parts infV
  have IU := hide (And.intro hiU (And.intro hzU (And.intro hsU hbU)))
  clear hiU hzU hsU hbU
  go_enter Try.func17, Try.ntmps17
  go_upto_region 1 with fail
  have hf1 : Below w.heap.size w ((w.alloc (.cells (uC R).toArray 25)).alloc (.cells (uC (List.replicate 16 0)).toArray 25)) := ((Below.refl _ _).alloc (Nat.le_refl _) _).alloc (le_alloc _ (Nat.le_refl _)) _
  have x0 : Blk ((w.alloc (.cells (uC R).toArray 25)).alloc (.cells (uC (List.replicate 16 0)).toArray 25)) w.heap.size 25 (uC R).toArray := (Blk.new w _ _).alloc _
  have x1 : Blk ((w.alloc (.cells (uC R).toArray 25)).alloc (.cells (uC (List.replicate 16 0)).toArray 25)) (w.heap.size + 1) 25 (uC (List.replicate 16 0)).toArray := by
    have := Blk.new (w.alloc (.cells (uC R).toArray 25)) 25 (uC (List.replicate 16 0)).toArray
    rw [show (w.alloc (.cells (uC R).toArray 25)).heap.size = w.heap.size + 1 by simp] at this
    exact this
  have hsz : ((w.alloc (.cells (uC R).toArray 25)).alloc (.cells (uC (List.replicate 16 0)).toArray 25)).heap.size = w.heap.size + 2 := by simp
  rw [show (#[Value.int .u64 0, .int .u64 0, .int .u64 0, .int .u64 0, .int .u64 0, .int .u64 0, .int .u64 0, .int .u64 0, .int .u64 0, .int .u64 0, .int .u64 0, .int .u64 0, .int .u64 0, .int .u64 0, .int .u64 0, .int .u64 0] : Array Value) = (uC (List.replicate 16 0)).toArray from rfl]
  generalize (w.alloc (.cells (uC R).toArray 25)).alloc (.cells (uC (List.replicate 16 0)).toArray 25) = w1 at hf1 x0 x1 hsz ⊢
  have HX0 := hide x0
  have HX1 := hide x1
  have HB1 := hide hf1
  have HM1 := hide (HH.out.below hf1)
  clear x0 x1 hf1
  go_wp2_with (first
    | (refine wpList_load_at rfl 25 (.tmp 3) rfl ⟨w.heap.size, 0, none⟩ rfl (uC R) _ (blk_list HX0.out) Try.underlying25 rfl (by rw [HUL.out]; exact infU) ?_)
    | (refine wpList_new rfl rfl 25 (.tmp 5) (.tmp 9) rfl rfl iU _ (.agg (uC R).toArray) (uC R).toArray IU.out.1 IU.out.2.1 (by rw [IU.out.2.2.1]; first | done | rfl) rfl (by rw [IU.out.2.2.1]; simpa using HUL.out) (all_one (uC_one _)) (by rfl) (by rfl) ?_
       intro w2 g2 G2 X2 L2
       have HX2 := hide X2
       have HL2 := hide L2
       clear X2 L2)
    | fail)
  have HF := hide (show OnF A n g2 w2.heap.size l R R (List.replicate 16 false) w (w2.alloc (.cells (bC (List.replicate 16 false)).toArray 45)) from
    ⟨(HX0.out.below HL2.out HX0.out.lt).alloc _, (HX1.out.below HL2.out HX1.out.lt).alloc _, HX2.out.alloc _, Blk.new w2 _ _, (HM1.out.below (HL2.out.mono HB1.out.size)).alloc (by have := HL2.out.size; omega) _, (HB1.out.trans (HL2.out.mono HB1.out.size)).alloc (by have := HL2.out.size; omega) _⟩)
  have hgw : w.heap.size + 2 ≤ g2 := by omega
  have hgt : g2 < w2.heap.size := HX2.out.lt
  rw [show (#[Value.bool false, .bool false, .bool false, .bool false, .bool false, .bool false, .bool false, .bool false, .bool false, .bool false, .bool false, .bool false, .bool false, .bool false, .bool false, .bool false] : Array Value) = (bC (List.replicate 16 false)).toArray from rfl]
  generalize w2.alloc (.cells (bC (List.replicate 16 false)).toArray 45) = w4 at HF ⊢
  generalize w2.heap.size = gt at HF hgt ⊢
  clear HL2 HX2 G2 HM1 HB1 HX1 HX0 hsz
  clear w2 w1
  go_loopw [12] (fun i wr => OnRel A n g2 gt l R w i wr) (fun i _ => n - (intOf i).toNat)
  case atStart => exact ⟨0, by omega, rfl, HF.out⟩
  case round =>
    obtain ⟨k, hk, rfl, hf⟩ := hrel
    clear HF
    have HF := hide hf
    clear hf
    have HLN := hide (show (oncL (l.take k) R R).length = 16 by rw [oncL_len, HR.out])
    by_cases hlt : k < n
    · obtain ⟨ad, x, rfl, hab, hx, hxw, hcell⟩ := HF.out.mvs.at_ hlt
      have hxr := HG.out x (List.mem_of_getElem? hx)
      have HC := hide hcell
      have HDT := hide (oncL_take hx R R)
      have HTT := hide (tkL_take hx (List.replicate 16 false))
      have hnot : x.1 ∉ (l.take k).map (·.1) := by
        intro q
        have hn := HN.out
        have hsp : l = l.take k ++ x :: l.drop (k + 1) := by
          obtain ⟨hl, he⟩ := List.getElem?_eq_some_iff.1 hx
          rw [← he, ← List.drop_eq_getElem_cons hl, List.take_append_drop]
        rw [hsp, List.map_append, List.map_cons, List.nodup_append] at hn
        exact hn.2.2 _ q _ (by simp) rfl
      obtain ⟨x0, x1⟩ := x
      dsimp only at hxr hnot
      obtain ⟨⟨r0, r1⟩, r2, r3⟩ := hxr
      obtain ⟨a, rfl⟩ := Int.eq_ofNat_of_zero_le r0
      obtain ⟨b, rfl⟩ := Int.eq_ofNat_of_zero_le r2
      have ha : a < 16 := by omega
      have hb : b < 16 := by omega
      have HTA := hide (show (tkL (l.take k) (List.replicate 16 false))[a]? = some false by
        rw [tkL_no (l.take k) _ a (fun y hy => HG.out y (List.mem_of_mem_take hy)) hnot, List.getElem?_replicate, if_pos ha])
      clear hx hcell hxw hnot
      have h0 : regB (a : Int) = true := regB_iff.2 ⟨r0, r1⟩
      have h1 : regB (b : Int) = true := regB_iff.2 ⟨r2, r3⟩
      obtain ⟨Rk, hRk⟩ : ∃ v, oncL (l.take k) R R = v := ⟨_, rfl⟩
      obtain ⟨Tk, hTk⟩ : ∃ v, tkL (l.take k) (List.replicate 16 false) = v := ⟨_, rfl⟩
      rw [hRk] at HF HLN HDT
      rw [hTk] at HF HTA HTT
      clear hRk hTk
      go_upto_region 6 with (refine wpList_load_at rfl 32 (.tmp 14) rfl (ad.add (k * 2)) rfl [.int .i8 a, .int .i8 b] _ HC.out Try.underlying32 rfl (by kernel_rfl) ?_)
      have X3 := Blk.new wr 32 #[.int .i8 a, .int .i8 b]
      have L3 : Below wr.heap.size wr (wr.alloc (.cells #[.int .i8 a, .int .i8 b] 32)) := (Below.refl _ _).alloc (Nat.le_refl _) _
      generalize wr.alloc (.cells #[.int .i8 a, .int .i8 b] 32) = w3 at X3 L3 ⊢
      have c30 : w3.cell? ⟨wr.heap.size, 0, none⟩ = some (.int .i8 a) := X3.cell 0
      have c31 : w3.cell? ⟨wr.heap.size, 1, none⟩ = some (.int .i8 b) := X3.cell 1
      have HF3 := hide (HF.out.step L3)
      have HX3 := hide X3
      have hwz := HF.out.below.size
      have hgl : gt < wr.heap.size := HF.out.tak.lt
      clear X3 L3
      obtain ⟨v, hv⟩ : ∃ v, R.getD b 0 = v := ⟨_, rfl⟩
      have cb : w3.cell? ⟨g2, b, none⟩ = some (.int .u64 v) := by
        rw [HF3.out.was.cell b]
        have : b < R.length := by rw [HR.out]; exact hb
        rw [← hv, List.getD_eq_getElem?_getD, List.getElem?_eq_getElem this]
        simp [uC, this]
      obtain ⟨va, ca⟩ : ∃ v, w3.cell? ⟨w.heap.size, a, none⟩ = some v := by
        rw [HF3.out.regs.cell a]
        have : a < Rk.length := by rw [HLN.out]; exact ha
        exact ⟨_, by simp [uC, this]; rfl⟩
      have ct : w3.cell? ⟨gt, a, none⟩ = some (.bool false) := by
        rw [HF3.out.tak.cell a]
        simp [bC, HTA.out]
      have fa := HF3.out.regs.frozen a
      have ft := HF3.out.tak.frozen a
      have HV := hide hv
      clear hv
      have n1 : wr.heap.size ≠ w.heap.size := by omega
      have n2 : wr.heap.size ≠ gt := by omega
      have n3 : gt ≠ w.heap.size := by omega
      have n4 : w.heap.size ≠ gt := by omega
      have n5 : g2 ≠ w.heap.size := by omega
      have n6 : g2 ≠ gt := by omega
      have s30 : (w3.setCell ⟨w.heap.size, a, none⟩ (.int .u64 v)).cell? ⟨wr.heap.size, 0, none⟩ = some (.int .i8 a) := (HX3.out.far (p := ⟨w.heap.size, a, none⟩) n1 _).cell 0
      have s31 : (w3.setCell ⟨w.heap.size, a, none⟩ (.int .u64 v)).cell? ⟨wr.heap.size, 1, none⟩ = some (.int .i8 b) := (HX3.out.far (p := ⟨w.heap.size, a, none⟩) n1 _).cell 1
      have st : (w3.setCell ⟨w.heap.size, a, none⟩ (.int .u64 v)).cell? ⟨gt, a, none⟩ = some (.bool false) := by
        rw [(HF3.out.tak.far (p := ⟨w.heap.size, a, none⟩) n3 _).cell a]
        simp [bC, HTA.out]
      have sf := (HF3.out.tak.far (p := ⟨w.heap.size, a, none⟩) n3 (.int .u64 v)).frozen a
      have t30 : (w3.setCell ⟨gt, a, none⟩ (.bool true)).cell? ⟨wr.heap.size, 0, none⟩ = some (.int .i8 a) := (HX3.out.far (p := ⟨gt, a, none⟩) n2 _).cell 0
      have t31 : (w3.setCell ⟨gt, a, none⟩ (.bool true)).cell? ⟨wr.heap.size, 1, none⟩ = some (.int .i8 b) := (HX3.out.far (p := ⟨gt, a, none⟩) n2 _).cell 1
      have tb : (w3.setCell ⟨gt, a, none⟩ (.bool true)).cell? ⟨g2, b, none⟩ = some (.int .u64 v) := by
        rw [(HF3.out.was.far (p := ⟨gt, a, none⟩) n6 _).cell b, ← HF3.out.was.cell b]
        exact cb
      have ta : (w3.setCell ⟨gt, a, none⟩ (.bool true)).cell? ⟨w.heap.size, a, none⟩ = some va := by
        rw [(HF3.out.regs.far (p := ⟨gt, a, none⟩) n4 _).cell a, ← HF3.out.regs.cell a]
        exact ca
      have tf := (HF3.out.regs.far (p := ⟨gt, a, none⟩) n4 (.bool true)).frozen a
      go_wp2_with fail
      refine (register_any (a : Int) _).mono ?_
      rintro e w' ⟨rfl, rfl⟩
      rw [h0]
      go_wp2_with fail
      refine (register_any (b : Int) _).mono ?_
      rintro e w' ⟨rfl, rfl⟩
      rw [h1]
      go_wp2
      go_region
      all_goals
        go_wp2
        go_roundw
        case measure => simp [intOf]; omega
        case rel =>
          refine ⟨k + 1, by omega, by go_num, ?_⟩
          rw [HDT.out, HTT.out]
          have hq := HF3.out.set2 hgw hgt a v
          have hq2 := HF3.out.set2b hgw hgt a v
          rw [show setO R Rk ((a : Int), (b : Int)) = Rk.set a v by unfold setO; dsimp only; rw [Int.toNat_natCast, Int.toNat_natCast, HV.out], Int.toNat_natCast]
          first
            | exact hq
            | exact hq.step ((Below.refl _ _).drew)
            | exact hq.step (bel_dN _)
            | exact hq2.step ((Below.refl _ _).drew)
            | exact hq2.step (bel_dN _)
    · obtain rfl : k = n := by omega
      have ht : l.take k = l := List.take_of_length_le (by rw [HL.out]; exact Nat.le_refl _)
      rw [ht] at HF HLN
      have HUS := hide (show (uC (oncL l R R)).length = 16 by unfold uC; rw [List.length_map, HLN.out])
      have HOU := hide (oncL_all (p := U64) (by unfold U64; omega) l R R HU.out HU.out)
      have HQ := hide (eql_regs HR.out HU.out HLN.out HOU.out)
      have HEQ := hide (eq_regs HR.out HU.out HLN.out HOU.out)
      obtain ⟨S, hS⟩ : ∃ v, oncL l R R = v := ⟨_, rfl⟩
      unfold OnP
      rw [hS] at HF HLN HUS HOU HQ HEQ ⊢
      have HSS := hide hS
      clear hk hlt ht hS
      obtain ⟨bb, hbb⟩ : ∃ v, eqL (uC R) (uC S) = v := ⟨_, rfl⟩
      rw [hbb] at HQ HEQ
      clear hbb
      have HE := HQ.out
      have HRES : Hid (overC (uC (List.replicate 16 0)) 0 (uC S) = uC S) := hide (by
        unfold overC
        rw [List.take_zero, List.nil_append, Nat.zero_add, List.drop_of_length_le (by rw [HUS.out]; simp [uC]), List.append_nil])
      cases bb
      · go_wp2_with (first
          | (refine wpList_load_at rfl 25 (.tmp 5) rfl ⟨g2, 0, none⟩ rfl (uC R) _ (blk_list HF.out.was) Try.underlying25 rfl (by rw [HUL.out]; exact infU) ?_)
          | (refine wpList_load_at rfl 25 (.tmp 3) rfl ⟨w.heap.size, 0, none⟩ rfl (uC S) _ (blk_list HF.out.regs) Try.underlying25 rfl (by rw [HUS.out]; exact infU) ?_)
          | (refine wpList_store_at rfl 25 (.tmp 4) (.tmp 46) rfl (w.heap.size + 1) 0 25 (uC (List.replicate 16 0)) (uC S) _ HF.out.res (by rfl) (by rfl) rfl (by rw [HUS.out]; exact infU) (by rw [HUS.out]; simp [uC]) (uC_one _) ?_
             intro w8 X8 G8 S8
             have HE8 := hide (HF.out.below.grown G8 HF.out.below.size (fun g e => by injection e with e; omega))
             have HX8 := hide X8
             clear X8 G8 S8)
          | fail)
        have hx8 := HX8.out
        rw [HRES.out] at hx8
        have hrl := run_loadVar_at (P := Try.prog) w8 ⟨w.heap.size + 1, 0, none⟩ 25 (uC S) _ (blk_list hx8) Try.underlying25 rfl (by rw [HUS.out]; exact infU)
        refine bodyPost_ret (v := .agg (uC S).toArray) ?_ rfl ⟨by rw [HSS.out], HE8.out⟩
        simp [results, Try.results17, Act.put, asAddr, Result.andThen, hrl]
      · go_wp2_with (first
          | (refine wpList_load_at rfl 25 (.tmp 5) rfl ⟨g2, 0, none⟩ rfl (uC R) _ (blk_list HF.out.was) Try.underlying25 rfl (by rw [HUL.out]; exact infU) ?_)
          | (refine wpList_load_at rfl 25 (.tmp 3) rfl ⟨w.heap.size, 0, none⟩ rfl (uC S) _ (blk_list HF.out.regs) Try.underlying25 rfl (by rw [HUS.out]; exact infU) ?_)
          | (refine wpList_store_at rfl 25 (.tmp 4) (.tmp 45) rfl (w.heap.size + 1) 0 25 (uC (List.replicate 16 0)) (uC R) _ HF.out.res (by rfl) (by rfl) rfl (by rw [HUL.out]; exact infU) (by rw [HUL.out]; simp [uC]) (uC_one _) ?_
             intro w8 X8 G8 S8
             have HE8 := hide (HF.out.below.grown G8 HF.out.below.size (fun g e => by injection e with e; omega))
             have HX8 := hide X8
             clear X8 G8 S8)
          | fail)
        have hx8 := HX8.out
        have he : uC R = uC S := by first | exact HEQ.out rfl | exact HEQ.out trivial | exact HEQ.out
        rw [he, HRES.out] at hx8
        have hrl := run_loadVar_at (P := Try.prog) w8 ⟨w.heap.size + 1, 0, none⟩ 25 (uC S) _ (blk_list hx8) Try.underlying25 rfl (by rw [HUS.out]; exact infU)
        refine bodyPost_ret (v := .agg (uC S).toArray) ?_ rfl ⟨by rw [HSS.out], HE8.out⟩
        simp [results, Try.results17, Act.put, asAddr, Result.andThen, hrl]
end Go.Proofs.Ytdnibhcpbdjhlaa
