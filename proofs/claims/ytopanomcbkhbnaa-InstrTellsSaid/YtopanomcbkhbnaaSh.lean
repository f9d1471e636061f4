/-
  latheref03.Encode: a program's bytes, or none, the document's. Conditions: those written in each statement.
-/
import Derived.Test.YtopanomcbkhbnaaSg
import Derived.Test.YtopanomcbkhbnaaIg
namespace Go.Proofs.Ytopanomcbkhbnaa
open Go.RowKit
set_option linter.unusedVariables false
set_option linter.unusedSimpArgs false
set_option maxRecDepth 100000 in
set_option maxHeartbeats 2000000 in
theorem rencode_yes (c : Int) (A : Option Addr) (n cap : Nat) (l : List ID) (w : World) (hh : InsAt w w.heap.size A n l) (hc : n ≤ cap) (hm : n < 9223372036854775808) (hok : (chkP c l).2 = 0) :
    Calls Try.prog 23 #[.agg #[.int .i64 c, .slice A n cap]] w fun e w' => ∃ sv, e = .returned (.tuple #[sv, .int .i64 0]) ∧ w'.ownsRow w.heap.size 5 1 sv (2 + 8 * n) ((encB c l).map (Value.int .u8)) ∧ Below w.heap.size w w' := by
  have HF := hide (PF.new (c := c) (cap := cap) hh)
  have HL := hide hh.1
  clear hh
  obtain ⟨hc0, hc1, hn0, hn1, hall, hlast, hP⟩ := chk_ok hok
  rw [HL.out] at hn0 hn1 hall
  have HALL := hide hall
  have HPP := hide hP
  clear hok hP hall hlast
  obtain ⟨i8, hi8, hz8, hs8, hb8⟩ := info_parts inf8
  have I8_ := hide (And.intro hi8 (And.intro hz8 (And.intro hs8 hb8)))
  clear hi8 hz8 hs8 hb8
  have hwc : IntKind.u64.wrap c = c := by rw [IntKind.wrap_u64]; omega
  go_enter Try.func23, Try.ntmps23
  go_wp2_with fail
  refine (rcheck_any c A n cap l _ HF.out.all hc hm).mono ?_
  rintro e w2 ⟨rfl, hb⟩
  replace HF := hide (HF.out.up hb)
  rw [HPP.out]
  clear hb
  have c0 := HF.out.c0
  go_wp2_with fail
  refine (rput_n c 2 2 _ rfl ⟨hc0, by omega⟩ (by omega)).mono ?_
  rintro e w3 ⟨sv, rfl, hown, hb⟩
  have HO := hide (own_base (b := w.heap.size + 1) hown HF.out.lt)
  replace HF := hide (HF.out.up hb)
  clear hb hown c0
  have c1 := HF.out.c1
  go_wp2
  go_loopw [6, 7] (fun sv i wr => EcRel c A n cap l w sv i wr) (fun _ i _ => n - (intOf i).toNat)
  case atStart => exact ⟨0, by omega, rfl, by simpa using HO.out, HF.out⟩
  case round =>
    obtain ⟨k, hk, rfl, hown, hf⟩ := hrel
    have HOr := hide hown
    have HFr := hide hf
    clear hown hf c1 HO HF
    by_cases hlt : k < n
    · obtain ⟨ad, x, rfl, hab, hx, hxw, hcell⟩ := HFr.out.ins.at_ hlt
      have hokx := HALL.out k x hx
      unfold okAt at hokx
      simp only [Bool.and_eq_true] at hokx
      have HMX := hide hokx.1
      have HX := hide hx
      have HC := hide hcell
      have HW := hide hxw
      clear hx hxw hcell hokx
      have hsz := HFr.out.lt
      have c1 := HFr.out.c1
      go_wp2_with (first
        | (refine wpList_load_at rfl 32 (.tmp 33) rfl (ad.add (k * 9)) rfl x.cells _ HC.out Try.underlying32 rfl sizI ?_)
        | fail)
      refine (rbytes_yes x _ HW.out HMX.out).mono ?_
      rintro e w5 ⟨sv5, rfl, hown5, hb⟩
      obtain ⟨A5, c5, rfl, hc5, hr5⟩ := own_slice hown5 (by omega)
      have HF5 := hide (HFr.out.up hb)
      have HO5 := hide (own_below HOr.out hb)
      have HR5 := hide hr5
      clear hb hown5 hr5 c1
      have hsz5 := HF5.out.lt
      go_wp2_with (first
        | (at_builtin
           refine wpList_append_any _ rfl (.tmp 38) (.tmp 39) _ rfl (w.heap.size + 1) 5 i8 _ 1 1 Try.underlying36 I8_.out.1 I8_.out.2.1 I8_.out.2.2.1 I8_.out.2.2.2 rfl (by omega) u6 (2 + 8 * k) _ (by rfl) HO5.out _ A5 8 c5 _ (by rfl) HR5.out (by intro u hu; simp at hu; obtain ⟨a, _, rfl⟩ := hu; rfl) (by simp only [maxLen]; omega) (by omega) hsz5 ?_
           intro v6 w6 hown6 hg6 _
           have HF6 := hide (HF5.out.step ((Below.refl _ _).grown hg6 hsz5 (own_ge HO5.out)))
           have HO6 := hide hown6
           clear hown6 hg6))
      go_roundw
      case measure => simp [intOf]; omega
      case rel =>
        refine ⟨k + 1, by omega, by go_num, ?_, HF6.out⟩
        rw [flat_take insB HX.out, show 2 + 8 * (k + 1) = 2 + 8 * k + 8 by omega]
        simpa using HO6.out
    · obtain rfl : k = n := by omega
      clear hk hlt
      have c1 := HFr.out.c1
      go_wp2
      go_ret2
      refine ⟨_, rfl, own_base (b := w.heap.size) ?_ (Nat.le_succ _), HFr.out.below⟩
      have := HOr.out
      rw [List.take_of_length_le (by have := HL.out; omega)] at this
      exact this
set_option maxRecDepth 100000 in
set_option maxHeartbeats 1000000 in
theorem rencode_no (c : Int) (A : Option Addr) (n cap : Nat) (l : List ID) (w : World) (hh : InsAt w w.heap.size A n l) (hc : n ≤ cap) (hm : n < 9223372036854775808) (hok : (chkP c l).2 ≠ 0) :
    Calls Try.prog 23 #[.agg #[.int .i64 c, .slice A n cap]] w fun e w' => e = .returned (.tuple #[.slice none 0 0, .int .i64 (chkP c l).2]) ∧ Below w.heap.size w w' := by
  have HF := hide (PF.new (c := c) (cap := cap) hh)
  clear hh
  have hne : ((chkP c l).2 != 0) = true := by rw [bne_iff_ne]; exact hok
  obtain ⟨ee, hee⟩ : ∃ v, (chkP c l).2 = v := ⟨_, rfl⟩
  rw [hee] at hne ⊢
  have HEE := hide hee
  clear hee
  go_enter Try.func23, Try.ntmps23
  go_wp2_with fail
  refine (rcheck_any c A n cap l _ HF.out.all hc hm).mono ?_
  rintro e w2 ⟨rfl, hb⟩
  replace HF := hide (HF.out.up hb)
  clear hb hok
  rw [HEE.out]
  generalize (chkP c l).1 = pp at *
  go_wp2
  go_ret2
  exact ⟨rfl, HF.out.below⟩
theorem rencode_any (c : Int) (A : Option Addr) (n cap : Nat) (l : List ID) (w : World) (hh : InsAt w w.heap.size A n l) (hc : n ≤ cap) (hm : n < 9223372036854775808) :
    Calls Try.prog 23 #[.agg #[.int .i64 c, .slice A n cap]] w fun e w' => ∃ A1 c1, e = .returned (.tuple #[.slice A1 (encO c l).length c1, .int .i64 (chkP c l).2]) ∧ (encO c l).length ≤ c1 ∧ Reads w' w'.heap.size 1 A1 (encO c l).length ((encO c l).map (Value.int .u8)) ∧ Below w.heap.size w w' := by
  by_cases hok : (chkP c l).2 = 0
  · have hl := hh.1
    refine (rencode_yes c A n cap l w hh hc hm hok).mono ?_
    rintro e w' ⟨sv, rfl, hown, hb⟩
    obtain ⟨A1, c1, rfl, h1, hr⟩ := own_slice hown (by omega)
    have hO : encO c l = encB c l := by unfold encO; rw [if_pos hok]
    rw [hO, encB_len, hl, hok]
    exact ⟨A1, c1, rfl, h1, hr, hb⟩
  · refine (rencode_no c A n cap l w hh hc hm hok).mono ?_
    rintro e w' ⟨rfl, hb⟩
    have hO : encO c l = [] := by unfold encO; rw [if_neg hok]
    rw [hO]
    exact ⟨none, 0, rfl, Nat.le_refl _, Reads.none_, hb⟩
end Go.Proofs.Ytopanomcbkhbnaa
