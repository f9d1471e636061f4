/-
  Contract: Put. Conditions: those written in each statement.
-/
import Derived.Test.YtepagfkkjlbipaaGreatPt
set_option linter.unusedVariables false
set_option linter.unusedSimpArgs false
set_option maxHeartbeats 64000000
set_option maxRecDepth 100000
namespace Go.Proofs.YtepagfkkjlbipaaGreat
open Tryz
open Go.RowKit
theorem infTm : (prog.info? 147).map (fun i => (i.zero, i.size, i.bytes)) = some (some (termV zeroT), 7, 40) := by kernel_rfl
theorem infIn : (prog.info? 3).map (fun i => (i.zero, i.size, i.bytes)) = some (some (.int .i64 0), 1, 8) := by kernel_rfl
theorem zero8 : ∀ w : World, (zeroValue 30).run prog w = .ok (.int .i8 0) w := fun w => by kernel_rfl
theorem zeroIn : ∀ w : World, (zeroValue 3).run prog w = .ok (.int .i64 0) w := fun w => by kernel_rfl
def LoopR (p : PS) (t : TD) (ok : Bool) (d : Int) (k : Nat) : Prop := ok = (okF t && ((prtL t).take k).all (hasB p.T)) ∧ (ok = true → d = dmax p.D ((prtL t).take k))
theorem LoopR.zero (p : PS) (t : TD) : LoopR p t (okF t) 1 0 := ⟨by simp, fun _ => rfl⟩
theorem LoopR.no {p : PS} {t : TD} {d : Int} {k : Nat} (h : LoopR p t false d k) : LoopR p t false d (k + 1) := by
 refine ⟨?_, fun h => by cases h⟩
 have := h.1
 rw [eq_comm, Bool.and_eq_false_iff] at this ⊢
 rcases this with q | q
 ·exact .inl q
 ·right
  rw [List.all_eq_false] at q ⊢
  obtain ⟨x, hx, hb⟩ := q
  have hx2 : x ∈ ((prtL t).take (k + 1)).take k := by rw [List.take_take, Nat.min_eq_left (by omega)]; exact hx
  exact ⟨x, List.mem_of_mem_take hx2, hb⟩
theorem take_snoc_ {l : List Int} {k : Nat} {x : Int} (h : l[k]? = some x) : l.take (k + 1) = l.take k ++ [x] := by
 rw [List.take_add_one, h]
 rfl
theorem LoopR.bad {p : PS} {t : TD} {ok : Bool} {d d' x : Int} {k : Nat} (h : LoopR p t ok d k) (hx : (prtL t)[k]? = some x) (hb : hasB p.T x = false) : LoopR p t false d' (k + 1) := by
 refine ⟨?_, fun h => by cases h⟩
 rw [take_snoc_ hx, List.all_append, List.all_cons, hb]
 simp
theorem LoopR.good {p : PS} {t : TD} {d x y : Int} {k : Nat} (h : LoopR p t true d k) (hx : (prtL t)[k]? = some x) (hb : hasB p.T x = true) (hy : p.D[x.toNat]? = some y) : LoopR p t true (max d (y + 1)) (k + 1) := by
 refine ⟨?_, fun _ => ?_⟩
 ·have := h.1
  rw [take_snoc_ hx, List.all_append, List.all_cons, hb, List.all_nil, Bool.and_true, Bool.and_true]
  exact this
 ·rw [take_snoc_ hx]
  unfold dmax
  rw [List.foldl_append, h.2 rfl]
  unfold dmax
  rw [List.foldl_cons, List.foldl_nil, List.getD_eq_getElem?_getD, hy]
  rfl
def PutP (base : Nat) (F : Nat → Prop) (g : Nat) (p : PS) (t : TD) (w : World) (e : Ending) (w' : World) : Prop :=
 e = .returned (.tuple #[.int .i64 (putN p t).1, .int .i64 (putN p t).2]) ∧ ∃ F' : Nat → Prop, PoolAt w' base F' g (putP p t) ∧ Chg F w w' ∧ ∀ b, F' b → F b ∨ w.heap.size ≤ b
def PutQ (base : Nat) (F : Nat → Prop) (g : Nat) (p : PS) (t : TD) (w : World) (e : Ending) (w' : World) : Prop :=
 PutP base F g p t w e w' ∧ w'.cell? ⟨g, 2, none⟩ = w.cell? ⟨g, 2, none⟩ ∧ w'.cell? ⟨g, 3, none⟩ = w.cell? ⟨g, 3, none⟩
theorem szST : (prog.info? 100).map (·.size) = some 1 := by kernel_rfl
theorem szSI : (prog.info? 28).map (·.size) = some 1 := by kernel_rfl
theorem fld0 (g : Nat) (w : World) : (Instr.fieldAt 102 (.pointer (some ⟨g, 0, none⟩)) 0).run prog w = .ok (.pointer (some ⟨g, 0, none⟩)) w := by go_simp
theorem fld1 (g : Nat) (w : World) : (Instr.fieldAt 102 (.pointer (some ⟨g, 0, none⟩)) 1).run prog w = .ok (.pointer (some ⟨g, 1, none⟩)) w := by go_simp
theorem fld2 (g : Nat) (w : World) : (Instr.fieldAt 102 (.pointer (some ⟨g, 0, none⟩)) 2).run prog w = .ok (.pointer (some ⟨g, 2, none⟩)) w := by go_simp
theorem fld3 (g : Nat) (w : World) : (Instr.fieldAt 102 (.pointer (some ⟨g, 0, none⟩)) 3).run prog w = .ok (.pointer (some ⟨g, 3, none⟩)) w := by go_simp
theorem tfld2 (g : Nat) (w : World) : (Instr.fieldAt 147 (.pointer (some ⟨g, 0, none⟩)) 2).run prog w = .ok (.pointer (some ⟨g, 2, none⟩)) w := by go_simp
theorem tfld3 (g : Nat) (w : World) : (Instr.fieldAt 147 (.pointer (some ⟨g, 0, none⟩)) 3).run prog w = .ok (.pointer (some ⟨g, 3, none⟩)) w := by go_simp
theorem own_far {F : Nat → Prop} {w : World} {x : Value} {r : Nat} (hx : ∀ b, x.ownBlock = some b → F b) (ho : ∀ b, F b → b < w.heap.size) (h : x.ownBlock = some r) (hb : w.heap.size ≤ r) : False := by
 have := ho _ (hx _ h)
 omega
structure UF (base : Nat) (F : Nat → Prop) (g bt : Nat) (p : PS) (t : TD) (w W : World) : Prop where
 pool : PoolAt W base F g p
 box : Blk W bt 147 t.cells.toArray
 bt : bt = w.heap.size
 below : Below w.heap.size w W
 old : ∀ b, F b → b < w.heap.size
section
variable {base g bt : Nat} {F : Nat → Prop} {p : PS} {t : TD} {w W V : World}
theorem UF.step (h : UF base F g bt p t w W) (hb : Below W.heap.size W V) : UF base F g bt p t w V :=
 ⟨h.pool.below hb, h.box.below hb h.box.lt, h.bt, h.below.trans (hb.mono h.below.size), h.old⟩
theorem UF.lt (h : UF base F g bt p t w W) : w.heap.size + 1 ≤ W.heap.size := by have := h.box.lt; rw [h.bt] at this; omega
theorem UF.no (h : UF base F g bt p t w W) (e : putP p t = p) {n r : Int} (hn : putN p t = (n, r)) : PutQ base F g p t w (.returned (.tuple #[.int .i64 n, .int .i64 r])) W := by
 have fg : g < w.heap.size := by obtain ⟨ls, ds, o, v, _, _, _, _, _, _, _, f1, _⟩ := h.pool.ex; exact h.old g f1
 refine ⟨⟨by rw [hn], F, by rw [e]; exact h.pool, ⟨h.below.os, h.below.tape, h.below.output, h.below.size, fun i hi _ => h.below.block i hi⟩, fun b q => .inl q⟩, h.below.cell (p := ⟨g, 2, none⟩) fg, h.below.cell (p := ⟨g, 3, none⟩) fg⟩
end
theorem put_fin {base g bt o v n wx : Nat} {F : Nat → Prop} {p : PS} {t : TD} {w W : World} {x y : Value} {d : Int} (h1 : okP p.T t = true) (h2 : atT p.T t = none) (h3 : p.T.length = n) (h4 : d = dmax p.D (prtL t)) (h5 : ¬ 4000 ≤ n ∧ d ≤ 256)
 (h : RF base g bt o v F p t w x y x y (n + 1) (n + 1) (n + 1) (p.T.flatMap TD.cells ++ t.cells) (p.D.map (Value.int .i64) ++ [.int .i64 d]) (putF (ofF p.T) t (.int .i64 (n : Nat))) (n + 1) (wdF (p.T ++ [t])) W)
 (hwf : WfP p) (hr : ∀ u ∈ p.T, u.wf) (ht : t.wf) (hfb : ∀ b, F b → base ≤ b ∧ b < wx) (hbase : base ≤ w.heap.size) : PutQ base F g p t w (.returned (.tuple #[.int .i64 (n : Nat), .int .i64 0])) W := by
 subst h3
 have e : putP p t = ⟨p.T ++ [t], p.D ++ [d]⟩ := by
  unfold putP
  rw [if_pos ⟨h1, h2, by omega, by rw [← h4]; omega⟩, ← h4]
 have e2 : putN p t = ((p.T.length : Int), 0) := by
  unfold putN
  rw [h1, h2, ← h4]
  simp
  omega
 have hw := hwf.put t
 rw [e] at hw
 refine ⟨⟨by rw [e2], _, by rw [e]; exact h.fin hw hr ht h2 (fun b q => (hfb b q).1) hbase, h.chg, fun b q => Or.imp id And.left q⟩, (h.pool.cell 2).trans h.ov.2.1.symm, (h.pool.cell 3).trans h.ov.2.2.symm⟩
theorem put_strong {base g : Nat} {F : Nat → Prop} {p : PS} (t : TD) (ht : t.wf) (w : World) (h : PoolAt w base F g p) (hbase : base ≤ w.heap.size) :
 Calls prog 69 #[.pointer (some ⟨g, 0, none⟩), termV t] w (PutQ base F g p t w) := by
 have HT := Hd ht
 have HU : Hid (UF base F g w.heap.size p t w (w.alloc (.cells t.cells.toArray 147))) :=
  ⟨h.below ((Below.refl _ _).alloc (Nat.le_refl _) _), Blk.new w _ _, rfl, (Below.refl _ _).alloc (Nat.le_refl _) _, fun b q => (h.fb b q).2⟩
 clear ht h
 unfold termV
 go_enter func69, ntmps69
 go_upto_region 3 with fail
 obtain ⟨w1, hw1⟩ : ∃ w1, w.alloc (.cells t.cells.toArray 147) = w1 := ⟨_, rfl⟩
 obtain ⟨bt, hbt⟩ : ∃ b, w.heap.size = b := ⟨_, rfl⟩
 rw [hw1] at HU ⊢
 rw [hbt] at HU ⊢
 clear hw1 hbt
 go_wp2_with (first
  | (refine wpList_load_at rfl 147 (.tmp 3) rfl ⟨bt, 0, none⟩ (by rfl) t.cells _ (blk_list HU.out.box) underlying147 rfl sizT ?_)
  | fail)
 refine (parts_any t HT.out _).mono ?_
 rintro e w2 ⟨s, rfl, hn, hb⟩
 obtain ⟨B2, hB2⟩ : ∃ B, w1.heap.size = B := ⟨_, rfl⟩
 replace HU := Hd (HU.out.step hb)
 rw [hB2] at hn
 have HN := Hd hn
 have hB2l : B2 ≤ w2.heap.size := by have := hb.size; omega
 clear hb hn hB2
 go_wp2_with (first
  | (refine wpList_store_new rfl 147 (.tmp 7) (.tmp 23) rfl _ (likeT t).cells (termV (likeT t)) (by rfl) (by rfl) rfl sizT rfl (TD.one _) ?_
     intro w3 G3 L3 Z3
     replace HU := Hd (HU.out.step L3)
     replace HN := Hd (HN.out.step L3)
     clear G3 L3)
  | fail)
 have hg0 : w.heap.size ≤ w3.heap.size := by have := HU.out.lt; omega
 obtain ⟨A, cc, rfl, hcl, hr, hge⟩ := HN.out
 obtain ⟨m, hm⟩ : ∃ m, (prtL t).length = m := ⟨_, rfl⟩
 have HM := Hd hm
 have hl3 := prtL_len t
 replace HN : Hid (NumsAt w3 B2 (.slice A m cc) (prtL t)) := by rw [← hm]; exact ⟨A, cc, rfl, hcl, hr, hge⟩
 rw [hm] at hl3 hcl ⊢
 obtain ⟨ok0, hok0⟩ : ∃ v, okF t = v := ⟨_, rfl⟩
 have HOK := Hd hok0
 rw [hok0]
 clear hm hr hge hok0 Z3
 go_wp2
 go_simp
 go_wp2
 go_loop [8, 9, 27] (fun okv dv iv => ∃ (k : Nat) (ok : Bool) (d : Int), k ≤ m ∧ okv = .bool ok ∧ dv = .int .i64 d ∧ iv = .int .i64 k ∧ 1 ≤ d ∧ d ≤ 300 ∧ LoopR p t ok d k) (fun _ _ iv => m - (intOf iv).toNat)
 case atStart => exact ⟨0, ok0, 1, by omega, rfl, rfl, rfl, by omega, by omega, by rw [← HOK.out]; exact LoopR.zero p t⟩
 case round =>
  obtain ⟨k, ok, d, hk, rfl, rfl, rfl, hd1, hd2, hR⟩ := hrel
  have HR := Hd hR
  clear hR
  by_cases hlt : k < m
  ·obtain ⟨ad, x, rfl, hB, hx, _, _, hc⟩ := HN.out.at_ hlt
   have HX := Hd hx
   clear hx
   cases ok
   ·go_wp2
    go_round
    case rel => exact ⟨k + 1, false, d, by omega, rfl, rfl, by go_num, by omega, by omega, HR.out.no⟩
    case measure => simp [intOf]; omega
   ·go_wp2_with fail
    refine (has_any x HU.out.pool).mono ?_
    rintro e w4 ⟨rfl, rfl⟩
    cases hb : hasB p.T x
    ·have HB := Hd hb
     clear hb
     go_wp2
     go_round
     case rel => exact ⟨k + 1, false, d, by omega, rfl, rfl, by go_num, by omega, by omega, HR.out.bad HX.out HB.out⟩
     case measure => simp [intOf]; omega
    ·have HB := Hd hb
     obtain ⟨j, rfl⟩ : ∃ j : Nat, x = j := by
      unfold hasB at hb
      simp at hb
      exact ⟨x.toNat, by omega⟩
     have hj : j < p.T.length := by
      unfold hasB at hb
      simp at hb
      exact hb
     obtain ⟨ad2, c2, dd, d2, t2, y, _, _, h1, h2, _, _, _, hy, _, hy1, hy2, _, hcy⟩ := HU.out.pool.at_ hj
     have HY := Hd hy
     obtain ⟨n, hn⟩ : ∃ n, p.T.length = n := ⟨_, rfl⟩
     rw [hn] at h1 h2 hj
     clear hb hy hn
     have hj2 : j < d2 := by omega
     go_wp2
     go_round
     case rel => exact ⟨k + 1, true, max d (y + 1), by omega, rfl, by go_num, by go_num, by omega, by omega, HR.out.good HX.out HB.out HY.out⟩
     case measure => simp [intOf]; omega
  ·obtain rfl : k = m := by omega
   have HOKK : Hid (ok = (okF t && (prtL t).all (hasB p.T)) ∧ (ok = true → d = dmax p.D (prtL t))) := by
    have := HR.out
    unfold LoopR at this
    rw [← HM.out, List.take_length] at this
    exact this
   clear HR hk hlt HN hcl hl3 HM
   obtain ⟨ls, ds, o, v, hG, hL, hD, hO, hV, hS, hov, f1, f2, f3, f4, f5⟩ := HU.out.pool.ex
   have HV := Hd hV
   have c3 := hG.cell 3
   have b0 := HU.out.box.cell 0
   have b2 := HU.out.box.cell 2
   have b3 := HU.out.box.cell 3
   simp [TD.cells] at c3 b0 b2 b3
   clear hG hL hD hO hV hS hov f1 f2 f3 f4 f5
   have htn := HT.out.2.2.2.1
   have HTN := Hd htn
   obtain ⟨th, ww, hw1, hw2, hcl⟩ : ∃ (th : Bool) (ww : Int), (wdF p.T t.n).getD (.int .i8 0) = .int .i8 ww ∧ (wdF p.T t.n).isSome = th ∧ clashB p.T t = (t.kind == 1 && (th && ww != t.w)) := by
    unfold wdF clashB
    cases wideF p.T t.n with
    | none => exact ⟨false, 0, rfl, rfl, rfl⟩
    | some x => exact ⟨true, x, rfl, rfl, rfl⟩
   have HW1 := Hd hw1
   have HW2 := Hd hw2
   have HCL := Hd hcl
   clear htn hw1 hw2 hcl
   go_wp2
   refine wp_region_quiet_lit (by kernel_rfl) (by kernel_rfl) ?_
   repeat (first
    | (refine wpQuiet_look rfl (.tmp 53) (.tmp 55) 99 rfl 30 wordK underlying99 (.int .i8 0) zero8 HV.out t.n HTN.out (by rfl) (by rfl) (.int .i8 ww) th HW1.out HW2.out ?_
       go_simp)
    | go_big_quiet_step (fail))
   refine wpQuiet_nil ?_
   first
    | (intro wq hwq; obtain ⟨nq, rfl⟩ := hwq)
    | intro nq
   replace HU := Hd (HU.out.step (below_drewN (Below.refl _ _) nq))
   generalize w3.drewN nq = w4 at HU ⊢
   clear HV HW1 HW2 b3 c3
   have b0 := HU.out.box.cell 0
   have b2 := HU.out.box.cell 2
   simp [TD.cells] at b0 b2
   obtain ⟨cl, hcl⟩ : ∃ v, clashB p.T t = v := ⟨_, rfl⟩
   have HC := Hd hcl
   clear hcl
   go_upto_region 13 with fail
   go_cut [70] from 17 (fun x wc => x = .bool cl ∧ wc = w4)
   case first =>
    as_aux_lemma =>
     cases h1 : (t.kind == 1)
     ·go_wp2
      go_meet
      case rel => exact ⟨by rw [← HC.out, HCL.out, h1]; rfl, rfl⟩
     ·cases th
      ·go_wp2
       go_meet
       case rel => exact ⟨by rw [← HC.out, HCL.out, h1]; rfl, rfl⟩
      ·cases h2 : (ww != t.w)
       all_goals
        go_wp2
        go_meet
        case rel => exact ⟨by rw [← HC.out, HCL.out, h1, h2]; rfl, rfl⟩
   case rest =>
    obtain ⟨rfl, rfl⟩ := hcut
    have HOP := Hd (show okP p.T t = (ok && !cl) from by unfold okP; rw [HC.out, HOKK.out.1, Bool.and_assoc])
    have HDM := Hd HOKK.out.2
    clear HCL HC HOKK
    cases cl
    rotate_left
    ·as_aux_lemma =>
     go_wp2
     go_ret2
     have hno : okP p.T t = false := by rw [HOP.out]; simp
     exact HU.out.no (by unfold putP; rw [hno]; simp) (by unfold putN; rw [hno]; rfl)
    cases ok
    ·as_aux_lemma =>
     go_wp2
     go_ret2
     have hno : okP p.T t = false := by rw [HOP.out]; rfl
     exact HU.out.no (by unfold putP; rw [hno]; simp) (by unfold putN; rw [hno]; rfl)
    have HD : Hid (d = dmax p.D (prtL t)) := HDM.out rfl
    clear HDM
    have HOT : Hid (okP p.T t = true) := HOP.out
    clear HOP
    obtain ⟨ls, ds, o, v, hG, hL, hD, hO, hV, hS, hov, f1, f2, f3, f4, f5⟩ := HU.out.pool.ex
    have HO := Hd hO
    have c2 := hG.cell 2
    simp at c2
    clear hG hL hD hO hV hS hov f1 f2 f3 f4 f5 b0 b2
    obtain ⟨i, hi1, hi2⟩ : ∃ i : Int, (ofF p.T t).getD (.int .i64 0) = .int .i64 i ∧ (∀ j, atT p.T t = some j → i = (j : Int)) := by
     unfold ofF
     cases atT p.T t with
     | none => exact ⟨0, rfl, fun j h => by cases h⟩
     | some j => exact ⟨j, rfl, fun j' h => by injection h with h; rw [h]⟩
    have HI1 := Hd hi1
    have HI2 := Hd hi2
    have HIS := Hd (show (ofF p.T t).isSome = (atT p.T t).isSome from by unfold ofF; cases atT p.T t <;> rfl)
    obtain ⟨fd, hfd⟩ : ∃ v, (atT p.T t).isSome = v := ⟨_, rfl⟩
    rw [hfd] at HIS
    have HFD := Hd hfd
    clear hi1 hi2 hfd
    go_wp2
    refine wp_region_quiet_lit (by kernel_rfl) (by kernel_rfl) ?_
    repeat (first
     | (refine wpQuiet_load rfl 147 (.tmp 3) rfl ⟨bt, 0, none⟩ (by rfl) t.cells _ (blk_list HU.out.box) underlying147 rfl sizT ?_
        go_simp)
     | (refine wpQuiet_look rfl (.tmp 77) (.tmp 78) 98 rfl 3 termK underlying98 (.int .i64 0) zeroIn HO.out t HT.out (by rfl) (by rfl) (.int .i64 i) fd HI1.out HIS.out ?_
        go_simp)
     | go_big_quiet_step (fail))
    refine wpQuiet_nil ?_
    first
     | (intro wq hwq; obtain ⟨nq, rfl⟩ := hwq)
     | intro nq
    replace HU := Hd (HU.out.step (below_drewN (Below.refl _ _) nq))
    generalize wc.drewN nq = w5 at HU ⊢
    clear HO HI1 HIS c2
    cases fd
    rotate_left
    ·as_aux_lemma =>
     go_wp2
     go_ret2
     obtain ⟨j, hj⟩ := Option.isSome_iff_exists.1 HFD.out
     rw [HI2.out j hj]
     exact HU.out.no (by unfold putP; rw [hj]; simp) (by unfold putN; rw [HOT.out, hj]; rfl)
    have hno : atT p.T t = none := by
     have := HFD.out
     cases h : atT p.T t with
     | none => rfl
     | some j => rw [h] at this; cases this
    have HNO := Hd hno
    clear HFD HI2 hno
    obtain ⟨A3, c3, D3, d3, hv1, hv2, _, _, _, _⟩ := HU.out.pool.view
    obtain ⟨n, hn⟩ : ∃ n, p.T.length = n := ⟨_, rfl⟩
    have hfew := HU.out.pool.few
    have HN := Hd hn
    rw [hn] at hv1 hv2 hfew
    clear hn
    by_cases hlim : 4000 ≤ n
    ·as_aux_lemma =>
     go_wp2
     go_ret2
     exact HU.out.no (by unfold putP; rw [if_neg]; rintro ⟨_, _, h, _⟩; rw [HN.out] at h; omega) (by unfold putN; rw [HOT.out, HNO.out, HN.out]; simp [hlim])
    by_cases hdl : 256 < d
    ·as_aux_lemma =>
     go_wp2
     go_ret2
     exact HU.out.no (by unfold putP; rw [if_neg]; rintro ⟨_, _, _, h⟩; rw [← HD.out] at h; omega) (by unfold putN; rw [HOT.out, HNO.out, ← HD.out]; simp [hdl])
    go_wp2
    -- WRITING
    have HLIM := Hd (And.intro hlim hdl)
    obtain ⟨ls, ds, o, v, hG, hL, hD, hO, hV, hS, hov, f1, f2, f3, f4, f5⟩ := HU.out.pool.ex
    have HR0 := (RF.mk HU.out.box hG hL hD hO hV hS ⟨HU.out.below.os, HU.out.below.tape, HU.out.below.output, HU.out.below.size, fun i hi _ => HU.out.below.block i hi⟩ (fun b q => .inl (f4 b q)) (fun b q => .inl (f5 b q)) f1 f2 f3 HU.out.bt HU.out.old ⟨hov, (HU.out.below.cell (p := ⟨g, 2, none⟩) (HU.out.old g f1)).symm.trans (hG.cell 2), (HU.out.below.cell (p := ⟨g, 3, none⟩) (HU.out.old g f1)).symm.trans (hG.cell 3)⟩ : RF base g bt o v F p t w ls ds ls ds p.T.length p.T.length p.T.length (p.T.flatMap TD.cells) (p.D.map (Value.int .i64)) (ofF p.T) p.T.length (wdF p.T) w5)
    have HFX := Hd f4
    have HFY := Hd f5
    have HOLD := Hd HU.out.old
    have HRNG := Hd HU.out.pool.rng
    have HWF := Hd HU.out.pool.wf
    have HFB := Hd HU.out.pool.fb
    rw [HN.out] at HR0
    have HR := Hd (HR0.step ((Below.refl _ _).drew))
    clear hG hL hD hO hV hS hov f1 f2 f3 f4 f5 HR0 HU hv1 hv2
    obtain ⟨iM, hiM, hzM, hsM, hbM⟩ := info_parts infTm
    have IM := Hd (And.intro hiM (And.intro hzM (And.intro hsM hbM)))
    clear hiM hzM hsM hbM
    obtain ⟨iN, hiN, hzN, hsN, hbN⟩ := info_parts infIn
    have IN := Hd (And.intro hiN (And.intro hzN (And.intro hsN hbN)))
    clear hiN hzN hsN hbN
    refine wp_region_E (fun w' => Blk w' bt 147 t.cells.toArray) (fun w' => Blk w' g 102 #[ls, ds, .map (some o), .map (some v)]) [24, 27, 28, 30] (by kernel_rfl) ?_
    generalize w5.drew = w6 at HR ⊢
    refine em 0 (.pointer (some ⟨g, 0, none⟩)) (.both HR.out.box HR.out.pool) ?_
    refine em 1 (.pointer (some ⟨g, 0, none⟩)) (.both HR.out.box HR.out.pool) ?_
    refine em 2 (.pointer (some ⟨g, 0, none⟩)) (.both HR.out.box HR.out.pool) ?_
    refine ez 3 ⟨g, 0, none⟩ (.both HR.out.box HR.out.pool) ?_
    refine E_field 4 (some 103) 102 (.tmp 102) 2 ⟨g, 0, none⟩ ⟨g, 2, none⟩ rfl (by kernel_rfl) (by rfl) (fun _ _ _ h => h) (by rfl) (fld2 g) (.both HR.out.box HR.out.pool) ?_
    simp only [pt, pn, sL]
    refine el true 5 ⟨g, 2, none⟩ (.map (some o)) underlying98 (fun w hS => ((hS.2 rfl).cell 2)) (.both HR.out.box HR.out.pool) ?_
    refine eL false 6 ⟨bt, 0, none⟩ t.cells (fun w hS => blk_list hS.1) underlying147 sizT (.both HR.out.box HR.out.pool) ?_
    refine em 7 (.pointer (some ⟨g, 0, none⟩)) (.both HR.out.box HR.out.pool) ?_
    refine ez 8 ⟨g, 0, none⟩ (.both HR.out.box HR.out.pool) ?_
    refine E_field 9 (some 108) 102 (.tmp 107) 0 ⟨g, 0, none⟩ ⟨g, 0, none⟩ rfl (by kernel_rfl) (by rfl) (fun _ _ _ h => h) (by rfl) (fld0 g) (.both HR.out.box HR.out.pool) ?_
    simp only [pt, pn, sL]
    refine el true 10 ⟨g, 0, none⟩ (ls) underlying100 (fun w hS => ((hS.2 rfl).cell 0)) (.both HR.out.box HR.out.pool) ?_
    refine eL false 11 ⟨bt, 0, none⟩ t.cells (fun w hS => blk_list hS.1) underlying147 sizT (.both HR.out.box HR.out.pool) ?_
    refine em 14 (.pointer (some ⟨g, 0, none⟩)) (.both HR.out.box HR.out.pool) ?_
    refine ez 15 ⟨g, 0, none⟩ (.both HR.out.box HR.out.pool) ?_
    refine E_field 16 (some 115) 102 (.tmp 114) 1 ⟨g, 0, none⟩ ⟨g, 1, none⟩ rfl (by kernel_rfl) (by rfl) (fun _ _ _ h => h) (by rfl) (fld1 g) (.both HR.out.box HR.out.pool) ?_
    simp only [pt, pn, sL]
    refine el true 17 ⟨g, 1, none⟩ (ds) underlying28 (fun w hS => ((hS.2 rfl).cell 1)) (.both HR.out.box HR.out.pool) ?_
    refine em 18 (.int .i64 d) (.both HR.out.box HR.out.pool) ?_
    refine em 21 (.int .i64 n) (.both HR.out.box HR.out.pool) ?_
    refine E_two 12 19 (by kernel_rfl) ?ka ?kb
    case' ka =>
     refine (StepE.slice_one 12 (some 111) 100 147 (.tmp 110) iM _ (termV t) rfl (by rfl) underlying100 IM.out.1 IM.out.2.1 (by rw [IM.out.2.2.1]; decide) (by rw [IM.out.2.2.1]; decide) (by rfl) (by rw [IM.out.2.2.1]; rfl) ?_)
     intro wa ga hga Ba La
     have HBA := Hd Ba
     replace HR := Hd (HR.out.step La)
     clear Ba La hga
     refine ⟨.both HR.out.box HR.out.pool, ?_⟩
     simp only [pt, pn, sL]
     refine E_two 13 19 (by kernel_rfl) ?kc ?kd
    case' kc =>
     refine (StepE.append 13 (some 112) 100 147 (.tmp 109) (.tmp 111) base iM _ 7 40 rfl (by rfl) underlying100 IM.out.1 IM.out.2.1 IM.out.2.2.1 IM.out.2.2.2 rfl (by omega) ls n (p.T.flatMap TD.cells) (by rfl) HR.out.rx _ (some ⟨ga, 0, none⟩) 1 1 t.cells (by rfl) (reads_blk (xs := t.cells) HBA.out 1 7 rfl) (TD.one t) (by unfold maxLen; omega) (by omega) (by have := HR.out.chg.size; omega) ?_)
     intro ls2 wb R2 G2 O2
     obtain ⟨gx, cx, hx, _⟩ := (RowL.of_own R2).form (by omega)
     subst hx
     replace HR := Hd (HR.out.appx HFX.out R2 G2 O2)
     clear R2 G2 O2
     refine ⟨.both HR.out.box HR.out.pool, ?_⟩
     simp only [pt, pn, sL]
     refine E_one 19 (by kernel_rfl) (StepE.slice_one 19 (some 118) 28 3 (.tmp 117) iN _ (.int .i64 d) rfl (by rfl) underlying28 IN.out.1 IN.out.2.1 (by rw [IN.out.2.2.1]; decide) (by rw [IN.out.2.2.1]; decide) (by rfl) (by rw [IN.out.2.2.1]; rfl) ?_)
     intro wc2 gb hgb Bb Lb
     have HBB := Hd Bb
     have HGB : Hid (w.heap.size ≤ gb) := by have := HR.out.lt; exact Nat.le_trans (Nat.le_of_lt this) hgb
     replace HR := Hd (HR.out.step Lb)
     clear Bb Lb hgb
     refine ⟨.both HR.out.box HR.out.pool, ?_⟩
     simp only [pt, pn, sL]
    case' kd =>
     refine (StepE.slice_one 19 (some 118) 28 3 (.tmp 117) iN _ (.int .i64 d) rfl (by rfl) underlying28 IN.out.1 IN.out.2.1 (by rw [IN.out.2.2.1]; decide) (by rw [IN.out.2.2.1]; decide) (by rfl) (by rw [IN.out.2.2.1]; rfl) ?_)
     intro wc2 gb hgb Bb Lb
     have HBB := Hd Bb
     have HGB : Hid (w.heap.size ≤ gb) := by have := HR.out.lt; exact Nat.le_trans (Nat.le_of_lt this) hgb
     replace HBA := Hd (HBA.out.below Lb HBA.out.lt)
     replace HR := Hd (HR.out.step Lb)
     clear Bb Lb hgb
     refine ⟨.both HR.out.box HR.out.pool, ?_⟩
     simp only [pt, pn, sL]
     refine E_one 13 (by kernel_rfl) (StepE.append 13 (some 112) 100 147 (.tmp 109) (.tmp 111) base iM _ 7 40 rfl (by rfl) underlying100 IM.out.1 IM.out.2.1 IM.out.2.2.1 IM.out.2.2.2 rfl (by omega) ls n (p.T.flatMap TD.cells) (by rfl) HR.out.rx _ (some ⟨ga, 0, none⟩) 1 1 t.cells (by rfl) (reads_blk (xs := t.cells) HBA.out 1 7 rfl) (TD.one t) (by unfold maxLen; omega) (by omega) (by have := HR.out.chg.size; omega) ?_)
     intro ls2 wb R2 G2 O2
     obtain ⟨gx, cx, hx, _⟩ := (RowL.of_own R2).form (by omega)
     subst hx
     replace HR := Hd (HR.out.appx HFX.out R2 G2 O2)
     replace HBB := Hd (HBB.out.grown G2 (fun e => own_far HFX.out HOLD.out e.symm HGB.out))
     clear R2 G2 O2
     refine ⟨.both HR.out.box HR.out.pool, ?_⟩
     simp only [pt, pn, sL]
    case' kb =>
     refine (StepE.slice_one 19 (some 118) 28 3 (.tmp 117) iN _ (.int .i64 d) rfl (by rfl) underlying28 IN.out.1 IN.out.2.1 (by rw [IN.out.2.2.1]; decide) (by rw [IN.out.2.2.1]; decide) (by rfl) (by rw [IN.out.2.2.1]; rfl) ?_)
     intro wc2 gb hgb Bb Lb
     have HBB := Hd Bb
     have HGB : Hid (w.heap.size ≤ gb) := by have := HR.out.lt; exact Nat.le_trans (Nat.le_of_lt this) hgb
     replace HR := Hd (HR.out.step Lb)
     clear Bb Lb hgb
     refine ⟨.both HR.out.box HR.out.pool, ?_⟩
     simp only [pt, pn, sL]
     refine E_one 12 (by kernel_rfl) (StepE.slice_one 12 (some 111) 100 147 (.tmp 110) iM _ (termV t) rfl (by rfl) underlying100 IM.out.1 IM.out.2.1 (by rw [IM.out.2.2.1]; decide) (by rw [IM.out.2.2.1]; decide) (by rfl) (by rw [IM.out.2.2.1]; rfl) ?_)
     intro wa ga hga Ba La
     have HBA := Hd Ba
     replace HBB := Hd (HBB.out.below La HBB.out.lt)
     replace HR := Hd (HR.out.step La)
     clear Ba La hga
     refine ⟨.both HR.out.box HR.out.pool, ?_⟩
     simp only [pt, pn, sL]
     refine E_one 13 (by kernel_rfl) (StepE.append 13 (some 112) 100 147 (.tmp 109) (.tmp 111) base iM _ 7 40 rfl (by rfl) underlying100 IM.out.1 IM.out.2.1 IM.out.2.2.1 IM.out.2.2.2 rfl (by omega) ls n (p.T.flatMap TD.cells) (by rfl) HR.out.rx _ (some ⟨ga, 0, none⟩) 1 1 t.cells (by rfl) (reads_blk (xs := t.cells) HBA.out 1 7 rfl) (TD.one t) (by unfold maxLen; omega) (by omega) (by have := HR.out.chg.size; omega) ?_)
     intro ls2 wb R2 G2 O2
     obtain ⟨gx, cx, hx, _⟩ := (RowL.of_own R2).form (by omega)
     subst hx
     replace HR := Hd (HR.out.appx HFX.out R2 G2 O2)
     replace HBB := Hd (HBB.out.grown G2 (fun e => own_far HFX.out HOLD.out e.symm HGB.out))
     clear R2 G2 O2
     refine ⟨.both HR.out.box HR.out.pool, ?_⟩
     simp only [pt, pn, sL]
    all_goals
     refine E_one 20 (by kernel_rfl) (StepE.append 20 (some 119) 28 3 (.tmp 116) (.tmp 118) base iN _ 1 8 rfl (by rfl) underlying28 IN.out.1 IN.out.2.1 IN.out.2.2.1 IN.out.2.2.2 rfl (by omega) ds n (p.D.map (Value.int .i64)) (by rfl) HR.out.ry _ (some ⟨gb, 0, none⟩) 1 1 [.int .i64 d] (by rfl) (reads_blk (xs := [.int .i64 d]) HBB.out 1 1 rfl) one_int (by unfold maxLen; omega) (by omega) (by have := HR.out.chg.size; omega) ?_)
     intro ds2 wd2 R2 G2 O2
     obtain ⟨gy, cy, hy, _⟩ := (RowL.of_own R2).form (by omega)
     subst hy
     replace HR := Hd (HR.out.appy HFY.out R2 G2 O2)
     clear R2 G2 O2 HBA HBB HGB
     refine ⟨.both HR.out.box HR.out.pool, ?_⟩
     simp only [pt, pn, sL]
     refine E_one 22 (by kernel_rfl) (StepE.nil 22 (some 121) (.tmp 99) ⟨g, 0, none⟩ rfl (by rfl) (by rfl) (.both HR.out.box HR.out.pool) ?_)
     simp only [pt, pn, sL]
     refine E_one 23 (by kernel_rfl) (StepE.field 23 (some 122) 102 (.tmp 121) 0 ⟨g, 0, none⟩ ⟨g, 0, none⟩ rfl (by rfl) (by rfl) (fld0 g) (.both HR.out.box HR.out.pool) ?_)
     simp only [pt, pn, sL]
     refine E_one 24 (by kernel_rfl) (StepE.store_cell 24 100 102 (.tmp 122) (.tmp 112) g 0 _ (.slice (some ⟨gx, 0, none⟩) (n + 1) cx) rfl (by rfl) HR.out.pool (by rfl) (by rfl) (run_storeVar_one 100 g 0 102 _ _ HR.out.pool (by simp) szST rfl rfl) ?_)
     intro w7 B7 G7
     replace HR := Hd (HR.out.set (b0 := .slice (some ⟨gx, 0, none⟩) (n + 1) cx) (b1 := ds) B7 G7)
     clear B7 G7
     refine ⟨(.after HR.out.box (by kernel_rfl)), ?_⟩
     simp only [pt, pn, sL]
     refine E_one 25 (by kernel_rfl) (StepE.nil 25 (some 123) (.tmp 100) ⟨g, 0, none⟩ rfl (by rfl) (by rfl) (.after HR.out.box (by kernel_rfl)) ?_)
     simp only [pt, pn, sL]
     refine E_one 26 (by kernel_rfl) (StepE.field 26 (some 124) 102 (.tmp 123) 1 ⟨g, 0, none⟩ ⟨g, 1, none⟩ rfl (by rfl) (by rfl) (fld1 g) (.after HR.out.box (by kernel_rfl)) ?_)
     simp only [pt, pn, sL]
     refine E_one 27 (by kernel_rfl) (StepE.store_cell 27 28 102 (.tmp 124) (.tmp 119) g 1 _ (.slice (some ⟨gy, 0, none⟩) (n + 1) cy) rfl (by rfl) HR.out.pool (by rfl) (by rfl) (run_storeVar_one 28 g 1 102 _ _ HR.out.pool (by simp) szSI rfl rfl) ?_)
     intro w8 B8 G8
     replace HR := Hd (HR.out.set (b0 := .slice (some ⟨gx, 0, none⟩) (n + 1) cx) (b1 := .slice (some ⟨gy, 0, none⟩) (n + 1) cy) B8 G8)
     clear B8 G8
     refine ⟨(.after HR.out.box (by kernel_rfl)), ?_⟩
     simp only [pt, pn, sL]
     obtain ⟨c, w9, hrun, hg9, hst⟩ := HR.out.mo.entry HR.out.st termK underlying98 (.int .i64 0) zeroIn t HT.out (by unfold ofF; rw [HNO.out]; rfl)
     obtain ⟨w10, hrun2, hm10, hs10, hg10⟩ := hst (.int .i64 (n : Nat))
     have HBX := Hd (HR.out.box.grown hg9 (fun e => by injection e with e; exact blk_map_ne HR.out.box HR.out.mo e))
     replace HR := Hd (HR.out.mapo hm10 hs10 hg10)
     have HE1 := Hd hrun
     have HE2 := Hd hrun2
     clear hrun hrun2 hst hm10 hs10 hg10 hg9
     refine E_one 28 (by kernel_rfl) (StepE.entry 28 (some 125) 98 (.tmp 104) (.tmp 105) _ _ _ w9 rfl (by rfl) (by rfl) (by rfl) HE1.out (.after HBX.out (by kernel_rfl)) ?_)
     simp only [pt, pn, sL]
     refine E_one 29 (by kernel_rfl) (StepE.extract 29 (some 126) (.tmp 125) 1 _ (goInt c) rfl (by rfl) (by rfl) rfl (.after HBX.out (by kernel_rfl)) ?_)
     simp only [pt, pn, sL]
     refine E_one 30 (by kernel_rfl) (StepE.entrySet 30 98 (.tmp 104) (.tmp 126) (.tmp 120) _ _ _ w10 rfl (by rfl) (by rfl) (by rfl) (by rfl) HE2.out (.after HR.out.box (by kernel_rfl)) ?_)
     simp only [pt, pn, sL]
     refine wpAnyE_done (by kernel_rfl) ?_ _
     clear HBX HE1 HE2 IM IN HFX HFY HOLD
     have b0 := HR.out.box.cell 0
     simp [TD.cells] at b0
     cases hk : (t.kind == 1)
     ·go_wp2
      go_ret2
      exact put_fin HOT.out HNO.out HN.out HD.out HLIM.out (HR.out.mapw (HR.out.mv.mono (Nat.le_succ _)) (fun q => wdF_same (by simpa using hk) q)) HWF.out HRNG.out HT.out HFB.out hbase
     ·have HK := Hd (show t.kind = 1 by simpa using hk)
      go_wp2
      obtain ⟨w11, hrun, hm11, hg11⟩ := (HR.out.step ((Below.refl _ _).drew)).mv.update wordK underlying99 (by have := HLIM.out.1; unfold maxLen; omega) t.n HT.out.2.2.2.1 (.int .i8 t.w)
      refine wp_region_E (fun _ => True) (fun w' => Blk w' bt 147 t.cells.toArray ∧ Blk w' g 102 #[.slice (some ⟨gx, 0, none⟩) (n + 1) cx, .slice (some ⟨gy, 0, none⟩) (n + 1) cy, .map (some o), .map (some v)]) [8] (by kernel_rfl) ?_
      replace HR := Hd (HR.out.step ((Below.refl _ _).drew))
      generalize w10.drew = w12 at HR hrun hm11 hg11 ⊢
      have HE := Hd hrun
      have HM := Hd hm11
      have HG := Hd hg11
      clear hrun hm11 hg11 b0
      refine em 0 (.pointer (some ⟨g, 0, none⟩)) (.both trivial (And.intro HR.out.box HR.out.pool)) ?_
      refine ez 1 ⟨g, 0, none⟩ (.both trivial (And.intro HR.out.box HR.out.pool)) ?_
      refine E_field 2 (some 132) 102 (.tmp 131) 3 ⟨g, 0, none⟩ ⟨g, 3, none⟩ rfl (by kernel_rfl) (by rfl) (fun _ _ _ h => h) (by rfl) (fld3 g) (.both trivial (And.intro HR.out.box HR.out.pool)) ?_
      simp only [pt, pn, sL]
      refine el true 3 ⟨g, 3, none⟩ (.map (some v)) underlying99 (fun w hS => ((hS.2 rfl).2.cell 3)) (.both trivial (And.intro HR.out.box HR.out.pool)) ?_
      refine E_field 4 (some 134) 147 (.tmp 3) 3 ⟨bt, 0, none⟩ ⟨bt, 3, none⟩ rfl (by kernel_rfl) (by rfl) (fun _ _ _ h => h) (by rfl) (tfld3 bt) (.both trivial (And.intro HR.out.box HR.out.pool)) ?_
      simp only [pt, pn, sL]
      refine el true 5 ⟨bt, 3, none⟩ (.int .u64 t.n) underlying31 (fun w hS => ((hS.2 rfl).1.cell 3)) (.both trivial (And.intro HR.out.box HR.out.pool)) ?_
      refine E_field 6 (some 136) 147 (.tmp 3) 2 ⟨bt, 0, none⟩ ⟨bt, 2, none⟩ rfl (by kernel_rfl) (by rfl) (fun _ _ _ h => h) (by rfl) (tfld2 bt) (.both trivial (And.intro HR.out.box HR.out.pool)) ?_
      simp only [pt, pn, sL]
      refine el true 7 ⟨bt, 2, none⟩ (.int .i8 t.w) underlying30 (fun w hS => ((hS.2 rfl).1.cell 2)) (.both trivial (And.intro HR.out.box HR.out.pool)) ?_
      refine E_one 8 (by kernel_rfl) (StepE.mapSet 8 99 (.tmp 133) (.tmp 135) (.tmp 137) _ _ _ w11 rfl (by rfl) (by rfl) (by rfl) (by rfl) HE.out (.after trivial (by kernel_rfl)) ?_)
      simp only [pt, pn, sL]
      refine wpAnyE_done (by kernel_rfl) ?_ _
      replace HR := Hd (HR.out.mapv HM.out HG.out)
      clear HE HM HG
      go_wp2
      go_ret2
      exact put_fin HOT.out HNO.out HN.out HD.out HLIM.out (HR.out.mapw HR.out.mv (fun q => wdF_put HK.out (okP_parts HOT.out).2.2 q)) HWF.out HRNG.out HT.out HFB.out hbase
theorem put_any {base g : Nat} {F : Nat → Prop} {p : PS} (t : TD) (ht : t.wf) (w : World) (h : PoolAt w base F g p) (hbase : base ≤ w.heap.size) :
 Calls prog 69 #[.pointer (some ⟨g, 0, none⟩), termV t] w (PutP base F g p t w) := (put_strong t ht w h hbase).mono fun _ _ q => q.1
end Go.Proofs.YtepagfkkjlbipaaGreat
