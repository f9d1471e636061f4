/-
  The walk of FlagsCompare at one width. Conditions: none but that words are words.
-/
import Derived.Test.YtejgpgkigcbflaaLi
namespace Go.Proofs.Ytejgpgkigcbflaa
open Go.RowKit
set_option maxRecDepth 100000 in
set_option maxHeartbeats 8000000 in
theorem compare_walk32 (a b : Int) (ha : U a) (hb : U b) (w : World) :
    Calls Try.prog 8 #[.bool false, .int .u64 a, .int .u64 b] w fun e w' => e = .returned (.bool true) ∧ Below w.heap.size w w' := by
  go_enter Try.func8, Try.ntmps8
  go_wp2_with fail
  refine (sub_yes a b 32 _ (.inl rfl) ha hb).mono ?_
  rintro e w1 ⟨rfl, hb1⟩
  have H1 := hb1
  clear hb1
  go_wp2_with fail
  go_loopw [11, 12, 13, 14, 15, 16, 17, 18, 19] (fun i _ _ _ _ _ _ _ _ wr => CRel 32 a b w1.heap.size (w1.heap.size + 1) w i wr) (fun i _ _ _ _ _ _ _ _ _ => 10 - (intOf i).toNat)
  case atStart =>
    refine ⟨0, by omega, rfl, (Blk.new w1 _ _).alloc _, ?_, (H1.alloc H1.size _).alloc (le_alloc _ H1.size) _⟩
    simpa using Blk.new (w1.alloc (.cells #[.bool true, .bool (subC 32 a b), .bool (subZ 32 a b), .bool (subS 32 a b), .bool (subO 32 a b)] 25)) 29 #[.int .i8 4, .int .i8 0, .int .i8 5, .int .i8 1, .int .i8 2, .int .i8 4, .int .i8 3, .int .i8 3, .int .i8 6, .int .i8 5, .int .i8 7, .int .i8 2, .int .i8 12, .int .i8 8, .int .i8 13, .int .i8 7, .int .i8 14, .int .i8 9, .int .i8 15, .int .i8 6]
  case round =>
    obtain ⟨k, hk, rfl, B1, B3, HW⟩ := hrel
    by_cases hlt : k < 10
    · obtain ⟨q0, q1, q2, q3, q4⟩ := B1.five
      have HB1 := hide B1
      have HB3 := hide B3
      clear B1 B3
      have h5 : k = 0 ∨ k = 1 ∨ k = 2 ∨ k = 3 ∨ k = 4 ∨ k = 5 ∨ k = 6 ∨ k = 7 ∨ k = 8 ∨ k = 9 := by omega
      rcases h5 with rfl | rfl | rfl | rfl | rfl | rfl | rfl | rfl | rfl | rfl
      · have r0 := HB3.out.cell 0
        have r1 := HB3.out.cell 1
        simp at r0 r1
        have C := hide (cmp_4 (w0 := 32) (.inl rfl) ha hb)
        go_wp2_with fail
        refine (rcmp_0 32 a b _ (.inl rfl) ha hb).mono ?_
        rintro e w' ⟨rfl, rfl⟩
        generalize hv : (cutW 32 a == cutW 32 b) = V at *
        clear hv
        go_wp2_with fail
        first | go_region_with ((go_at_call 10; refine (holds_any _ _ _ _ _ _ _).mono ?_; rintro e w3 ⟨rfl, hb3⟩)) | fail
        all_goals
          rw [C.out.1, show hE 4 true = 0 from rfl]
          clear q0 q1 q2 q3 q4 r0 r1
          have C1 := Blk.below (w := wr.drew) HB1.out hb3 HB1.out.lt
          have C3 := Blk.below (w := wr.drew) HB3.out hb3 HB3.out.lt
          have HW3 := HW.drew.trans (hb3.mono HW.size)
          clear HB1 HB3 HW hb3
          have r0 := C3.cell 0
          simp at r0
          have D1 := hide C1
          have D3 := hide C3
          clear C1 C3
          go_wp2_with fail
          refine (not_any _ _).mono ?_
          rintro e w4 ⟨rfl, hb4⟩
          rw [show notV 4 = 5 by decide +kernel, show mayB 4 = true from rfl]
          have C1 := Blk.below D1.out hb4 D1.out.lt
          have C3 := Blk.below D3.out hb4 D3.out.lt
          have HW4 := HW3.trans (hb4.mono HW3.size)
          clear D1 D3 hb4 HW3 r0
          obtain ⟨q0, q1, q2, q3, q4⟩ := C1.five
          have D1 := hide C1
          have D3 := hide C3
          clear C1 C3
          go_wp2_with fail
          refine (holds_any _ _ _ _ _ _ _).mono ?_
          rintro e w5 ⟨rfl, hb5⟩
          rw [C.out.2, show hE 5 true = 0 from rfl]
          have C1 := Blk.below D1.out hb5 D1.out.lt
          have C3 := Blk.below D3.out hb5 D3.out.lt
          have HW5 := HW4.trans (hb5.mono HW4.size)
          clear D1 D3 hb5 HW4 q0 q1 q2 q3 q4 C
          cases V
          all_goals
            go_wp2
            exact ⟨⟨1, by omega, rfl, C1, C3, HW5⟩, by simp [intOf]⟩
      · have r0 := HB3.out.cell 2
        have r1 := HB3.out.cell 3
        simp at r0 r1
        have C := hide (cmp_5 (w0 := 32) (.inl rfl) ha hb)
        go_wp2_with fail
        refine (rcmp_1 32 a b _ (.inl rfl) ha hb).mono ?_
        rintro e w' ⟨rfl, rfl⟩
        generalize hv : (cutW 32 a != cutW 32 b) = V at *
        clear hv
        go_wp2_with fail
        first | go_region_with ((go_at_call 10; refine (holds_any _ _ _ _ _ _ _).mono ?_; rintro e w3 ⟨rfl, hb3⟩)) | fail
        all_goals
          rw [C.out.1, show hE 5 true = 0 from rfl]
          clear q0 q1 q2 q3 q4 r0 r1
          have C1 := Blk.below (w := wr.drew) HB1.out hb3 HB1.out.lt
          have C3 := Blk.below (w := wr.drew) HB3.out hb3 HB3.out.lt
          have HW3 := HW.drew.trans (hb3.mono HW.size)
          clear HB1 HB3 HW hb3
          have r0 := C3.cell 2
          simp at r0
          have D1 := hide C1
          have D3 := hide C3
          clear C1 C3
          go_wp2_with fail
          refine (not_any _ _).mono ?_
          rintro e w4 ⟨rfl, hb4⟩
          rw [show notV 5 = 4 by decide +kernel, show mayB 5 = true from rfl]
          have C1 := Blk.below D1.out hb4 D1.out.lt
          have C3 := Blk.below D3.out hb4 D3.out.lt
          have HW4 := HW3.trans (hb4.mono HW3.size)
          clear D1 D3 hb4 HW3 r0
          obtain ⟨q0, q1, q2, q3, q4⟩ := C1.five
          have D1 := hide C1
          have D3 := hide C3
          clear C1 C3
          go_wp2_with fail
          refine (holds_any _ _ _ _ _ _ _).mono ?_
          rintro e w5 ⟨rfl, hb5⟩
          rw [C.out.2, show hE 4 true = 0 from rfl]
          have C1 := Blk.below D1.out hb5 D1.out.lt
          have C3 := Blk.below D3.out hb5 D3.out.lt
          have HW5 := HW4.trans (hb5.mono HW4.size)
          clear D1 D3 hb5 HW4 q0 q1 q2 q3 q4 C
          cases V
          all_goals
            go_wp2
            exact ⟨⟨2, by omega, rfl, C1, C3, HW5⟩, by simp [intOf]⟩
      · have r0 := HB3.out.cell 4
        have r1 := HB3.out.cell 5
        simp at r0 r1
        have C := hide (cmp_2 (w0 := 32) (.inl rfl) ha hb)
        go_wp2_with fail
        refine (rcmp_4 32 a b _ (.inl rfl) ha hb).mono ?_
        rintro e w' ⟨rfl, rfl⟩
        generalize hv : (decide (cutW 32 a < cutW 32 b)) = V at *
        clear hv
        go_wp2_with fail
        first | go_region_with ((go_at_call 10; refine (holds_any _ _ _ _ _ _ _).mono ?_; rintro e w3 ⟨rfl, hb3⟩)) | fail
        all_goals
          rw [C.out.1, show hE 2 true = 0 from rfl]
          clear q0 q1 q2 q3 q4 r0 r1
          have C1 := Blk.below (w := wr.drew) HB1.out hb3 HB1.out.lt
          have C3 := Blk.below (w := wr.drew) HB3.out hb3 HB3.out.lt
          have HW3 := HW.drew.trans (hb3.mono HW.size)
          clear HB1 HB3 HW hb3
          have r0 := C3.cell 4
          simp at r0
          have D1 := hide C1
          have D3 := hide C3
          clear C1 C3
          go_wp2_with fail
          refine (not_any _ _).mono ?_
          rintro e w4 ⟨rfl, hb4⟩
          rw [show notV 2 = 3 by decide +kernel, show mayB 2 = true from rfl]
          have C1 := Blk.below D1.out hb4 D1.out.lt
          have C3 := Blk.below D3.out hb4 D3.out.lt
          have HW4 := HW3.trans (hb4.mono HW3.size)
          clear D1 D3 hb4 HW3 r0
          obtain ⟨q0, q1, q2, q3, q4⟩ := C1.five
          have D1 := hide C1
          have D3 := hide C3
          clear C1 C3
          go_wp2_with fail
          refine (holds_any _ _ _ _ _ _ _).mono ?_
          rintro e w5 ⟨rfl, hb5⟩
          rw [C.out.2, show hE 3 true = 0 from rfl]
          have C1 := Blk.below D1.out hb5 D1.out.lt
          have C3 := Blk.below D3.out hb5 D3.out.lt
          have HW5 := HW4.trans (hb5.mono HW4.size)
          clear D1 D3 hb5 HW4 q0 q1 q2 q3 q4 C
          cases V
          all_goals
            go_wp2
            exact ⟨⟨3, by omega, rfl, C1, C3, HW5⟩, by simp [intOf]⟩
      · have r0 := HB3.out.cell 6
        have r1 := HB3.out.cell 7
        simp at r0 r1
        have C := hide (cmp_3 (w0 := 32) (.inl rfl) ha hb)
        go_wp2_with fail
        refine (rcmp_3 32 a b _ (.inl rfl) ha hb).mono ?_
        rintro e w' ⟨rfl, rfl⟩
        generalize hv : (decide (cutW 32 b ≤ cutW 32 a)) = V at *
        clear hv
        go_wp2_with fail
        first | go_region_with ((go_at_call 10; refine (holds_any _ _ _ _ _ _ _).mono ?_; rintro e w3 ⟨rfl, hb3⟩)) | fail
        all_goals
          rw [C.out.1, show hE 3 true = 0 from rfl]
          clear q0 q1 q2 q3 q4 r0 r1
          have C1 := Blk.below (w := wr.drew) HB1.out hb3 HB1.out.lt
          have C3 := Blk.below (w := wr.drew) HB3.out hb3 HB3.out.lt
          have HW3 := HW.drew.trans (hb3.mono HW.size)
          clear HB1 HB3 HW hb3
          have r0 := C3.cell 6
          simp at r0
          have D1 := hide C1
          have D3 := hide C3
          clear C1 C3
          go_wp2_with fail
          refine (not_any _ _).mono ?_
          rintro e w4 ⟨rfl, hb4⟩
          rw [show notV 3 = 2 by decide +kernel, show mayB 3 = true from rfl]
          have C1 := Blk.below D1.out hb4 D1.out.lt
          have C3 := Blk.below D3.out hb4 D3.out.lt
          have HW4 := HW3.trans (hb4.mono HW3.size)
          clear D1 D3 hb4 HW3 r0
          obtain ⟨q0, q1, q2, q3, q4⟩ := C1.five
          have D1 := hide C1
          have D3 := hide C3
          clear C1 C3
          go_wp2_with fail
          refine (holds_any _ _ _ _ _ _ _).mono ?_
          rintro e w5 ⟨rfl, hb5⟩
          rw [C.out.2, show hE 2 true = 0 from rfl]
          have C1 := Blk.below D1.out hb5 D1.out.lt
          have C3 := Blk.below D3.out hb5 D3.out.lt
          have HW5 := HW4.trans (hb5.mono HW4.size)
          clear D1 D3 hb5 HW4 q0 q1 q2 q3 q4 C
          cases V
          all_goals
            go_wp2
            exact ⟨⟨4, by omega, rfl, C1, C3, HW5⟩, by simp [intOf]⟩
      · have r0 := HB3.out.cell 8
        have r1 := HB3.out.cell 9
        simp at r0 r1
        have C := hide (cmp_6 (w0 := 32) (.inl rfl) ha hb)
        go_wp2_with fail
        refine (rcmp_5 32 a b _ (.inl rfl) ha hb).mono ?_
        rintro e w' ⟨rfl, rfl⟩
        generalize hv : (decide (cutW 32 a ≤ cutW 32 b)) = V at *
        clear hv
        go_wp2_with fail
        first | go_region_with ((go_at_call 10; refine (holds_any _ _ _ _ _ _ _).mono ?_; rintro e w3 ⟨rfl, hb3⟩)) | fail
        all_goals
          rw [C.out.1, show hE 6 true = 0 from rfl]
          clear q0 q1 q2 q3 q4 r0 r1
          have C1 := Blk.below (w := wr.drew) HB1.out hb3 HB1.out.lt
          have C3 := Blk.below (w := wr.drew) HB3.out hb3 HB3.out.lt
          have HW3 := HW.drew.trans (hb3.mono HW.size)
          clear HB1 HB3 HW hb3
          have r0 := C3.cell 8
          simp at r0
          have D1 := hide C1
          have D3 := hide C3
          clear C1 C3
          go_wp2_with fail
          refine (not_any _ _).mono ?_
          rintro e w4 ⟨rfl, hb4⟩
          rw [show notV 6 = 7 by decide +kernel, show mayB 6 = true from rfl]
          have C1 := Blk.below D1.out hb4 D1.out.lt
          have C3 := Blk.below D3.out hb4 D3.out.lt
          have HW4 := HW3.trans (hb4.mono HW3.size)
          clear D1 D3 hb4 HW3 r0
          obtain ⟨q0, q1, q2, q3, q4⟩ := C1.five
          have D1 := hide C1
          have D3 := hide C3
          clear C1 C3
          go_wp2_with fail
          refine (holds_any _ _ _ _ _ _ _).mono ?_
          rintro e w5 ⟨rfl, hb5⟩
          rw [C.out.2, show hE 7 true = 0 from rfl]
          have C1 := Blk.below D1.out hb5 D1.out.lt
          have C3 := Blk.below D3.out hb5 D3.out.lt
          have HW5 := HW4.trans (hb5.mono HW4.size)
          clear D1 D3 hb5 HW4 q0 q1 q2 q3 q4 C
          cases V
          all_goals
            go_wp2
            exact ⟨⟨5, by omega, rfl, C1, C3, HW5⟩, by simp [intOf]⟩
      · have r0 := HB3.out.cell 10
        have r1 := HB3.out.cell 11
        simp at r0 r1
        have C := hide (cmp_7 (w0 := 32) (.inl rfl) ha hb)
        go_wp2_with fail
        refine (rcmp_2 32 a b _ (.inl rfl) ha hb).mono ?_
        rintro e w' ⟨rfl, rfl⟩
        generalize hv : (decide (cutW 32 b < cutW 32 a)) = V at *
        clear hv
        go_wp2_with fail
        first | go_region_with ((go_at_call 10; refine (holds_any _ _ _ _ _ _ _).mono ?_; rintro e w3 ⟨rfl, hb3⟩)) | fail
        all_goals
          rw [C.out.1, show hE 7 true = 0 from rfl]
          clear q0 q1 q2 q3 q4 r0 r1
          have C1 := Blk.below (w := wr.drew) HB1.out hb3 HB1.out.lt
          have C3 := Blk.below (w := wr.drew) HB3.out hb3 HB3.out.lt
          have HW3 := HW.drew.trans (hb3.mono HW.size)
          clear HB1 HB3 HW hb3
          have r0 := C3.cell 10
          simp at r0
          have D1 := hide C1
          have D3 := hide C3
          clear C1 C3
          go_wp2_with fail
          refine (not_any _ _).mono ?_
          rintro e w4 ⟨rfl, hb4⟩
          rw [show notV 7 = 6 by decide +kernel, show mayB 7 = true from rfl]
          have C1 := Blk.below D1.out hb4 D1.out.lt
          have C3 := Blk.below D3.out hb4 D3.out.lt
          have HW4 := HW3.trans (hb4.mono HW3.size)
          clear D1 D3 hb4 HW3 r0
          obtain ⟨q0, q1, q2, q3, q4⟩ := C1.five
          have D1 := hide C1
          have D3 := hide C3
          clear C1 C3
          go_wp2_with fail
          refine (holds_any _ _ _ _ _ _ _).mono ?_
          rintro e w5 ⟨rfl, hb5⟩
          rw [C.out.2, show hE 6 true = 0 from rfl]
          have C1 := Blk.below D1.out hb5 D1.out.lt
          have C3 := Blk.below D3.out hb5 D3.out.lt
          have HW5 := HW4.trans (hb5.mono HW4.size)
          clear D1 D3 hb5 HW4 q0 q1 q2 q3 q4 C
          cases V
          all_goals
            go_wp2
            exact ⟨⟨6, by omega, rfl, C1, C3, HW5⟩, by simp [intOf]⟩
      · have r0 := HB3.out.cell 12
        have r1 := HB3.out.cell 13
        simp at r0 r1
        have C := hide (cmp_12 (w0 := 32) (.inl rfl) ha hb)
        go_wp2_with fail
        refine (rcmp_8 32 a b _ (.inl rfl) ha hb).mono ?_
        rintro e w' ⟨rfl, rfl⟩
        generalize hv : (decide (sgn 32 a < sgn 32 b)) = V at *
        clear hv
        go_wp2_with fail
        first | go_region_with ((go_at_call 10; refine (holds_any _ _ _ _ _ _ _).mono ?_; rintro e w3 ⟨rfl, hb3⟩)) | fail
        all_goals
          rw [C.out.1, show hE 12 true = 0 from rfl]
          clear q0 q1 q2 q3 q4 r0 r1
          have C1 := Blk.below (w := wr.drew) HB1.out hb3 HB1.out.lt
          have C3 := Blk.below (w := wr.drew) HB3.out hb3 HB3.out.lt
          have HW3 := HW.drew.trans (hb3.mono HW.size)
          clear HB1 HB3 HW hb3
          have r0 := C3.cell 12
          simp at r0
          have D1 := hide C1
          have D3 := hide C3
          clear C1 C3
          go_wp2_with fail
          refine (not_any _ _).mono ?_
          rintro e w4 ⟨rfl, hb4⟩
          rw [show notV 12 = 13 by decide +kernel, show mayB 12 = true from rfl]
          have C1 := Blk.below D1.out hb4 D1.out.lt
          have C3 := Blk.below D3.out hb4 D3.out.lt
          have HW4 := HW3.trans (hb4.mono HW3.size)
          clear D1 D3 hb4 HW3 r0
          obtain ⟨q0, q1, q2, q3, q4⟩ := C1.five
          have D1 := hide C1
          have D3 := hide C3
          clear C1 C3
          go_wp2_with fail
          refine (holds_any _ _ _ _ _ _ _).mono ?_
          rintro e w5 ⟨rfl, hb5⟩
          rw [C.out.2, show hE 13 true = 0 from rfl]
          have C1 := Blk.below D1.out hb5 D1.out.lt
          have C3 := Blk.below D3.out hb5 D3.out.lt
          have HW5 := HW4.trans (hb5.mono HW4.size)
          clear D1 D3 hb5 HW4 q0 q1 q2 q3 q4 C
          cases V
          all_goals
            go_wp2
            exact ⟨⟨7, by omega, rfl, C1, C3, HW5⟩, by simp [intOf]⟩
      · have r0 := HB3.out.cell 14
        have r1 := HB3.out.cell 15
        simp at r0 r1
        have C := hide (cmp_13 (w0 := 32) (.inl rfl) ha hb)
        go_wp2_with fail
        refine (rcmp_7 32 a b _ (.inl rfl) ha hb).mono ?_
        rintro e w' ⟨rfl, rfl⟩
        generalize hv : (decide (sgn 32 b ≤ sgn 32 a)) = V at *
        clear hv
        go_wp2_with fail
        first | go_region_with ((go_at_call 10; refine (holds_any _ _ _ _ _ _ _).mono ?_; rintro e w3 ⟨rfl, hb3⟩)) | fail
        all_goals
          rw [C.out.1, show hE 13 true = 0 from rfl]
          clear q0 q1 q2 q3 q4 r0 r1
          have C1 := Blk.below (w := wr.drew) HB1.out hb3 HB1.out.lt
          have C3 := Blk.below (w := wr.drew) HB3.out hb3 HB3.out.lt
          have HW3 := HW.drew.trans (hb3.mono HW.size)
          clear HB1 HB3 HW hb3
          have r0 := C3.cell 14
          simp at r0
          have D1 := hide C1
          have D3 := hide C3
          clear C1 C3
          go_wp2_with fail
          refine (not_any _ _).mono ?_
          rintro e w4 ⟨rfl, hb4⟩
          rw [show notV 13 = 12 by decide +kernel, show mayB 13 = true from rfl]
          have C1 := Blk.below D1.out hb4 D1.out.lt
          have C3 := Blk.below D3.out hb4 D3.out.lt
          have HW4 := HW3.trans (hb4.mono HW3.size)
          clear D1 D3 hb4 HW3 r0
          obtain ⟨q0, q1, q2, q3, q4⟩ := C1.five
          have D1 := hide C1
          have D3 := hide C3
          clear C1 C3
          go_wp2_with fail
          refine (holds_any _ _ _ _ _ _ _).mono ?_
          rintro e w5 ⟨rfl, hb5⟩
          rw [C.out.2, show hE 12 true = 0 from rfl]
          have C1 := Blk.below D1.out hb5 D1.out.lt
          have C3 := Blk.below D3.out hb5 D3.out.lt
          have HW5 := HW4.trans (hb5.mono HW4.size)
          clear D1 D3 hb5 HW4 q0 q1 q2 q3 q4 C
          cases V
          all_goals
            go_wp2
            exact ⟨⟨8, by omega, rfl, C1, C3, HW5⟩, by simp [intOf]⟩
      · have r0 := HB3.out.cell 16
        have r1 := HB3.out.cell 17
        simp at r0 r1
        have C := hide (cmp_14 (w0 := 32) (.inl rfl) ha hb)
        go_wp2_with fail
        refine (rcmp_9 32 a b _ (.inl rfl) ha hb).mono ?_
        rintro e w' ⟨rfl, rfl⟩
        generalize hv : (decide (sgn 32 a ≤ sgn 32 b)) = V at *
        clear hv
        go_wp2_with fail
        first | go_region_with ((go_at_call 10; refine (holds_any _ _ _ _ _ _ _).mono ?_; rintro e w3 ⟨rfl, hb3⟩)) | fail
        all_goals
          rw [C.out.1, show hE 14 true = 0 from rfl]
          clear q0 q1 q2 q3 q4 r0 r1
          have C1 := Blk.below (w := wr.drew) HB1.out hb3 HB1.out.lt
          have C3 := Blk.below (w := wr.drew) HB3.out hb3 HB3.out.lt
          have HW3 := HW.drew.trans (hb3.mono HW.size)
          clear HB1 HB3 HW hb3
          have r0 := C3.cell 16
          simp at r0
          have D1 := hide C1
          have D3 := hide C3
          clear C1 C3
          go_wp2_with fail
          refine (not_any _ _).mono ?_
          rintro e w4 ⟨rfl, hb4⟩
          rw [show notV 14 = 15 by decide +kernel, show mayB 14 = true from rfl]
          have C1 := Blk.below D1.out hb4 D1.out.lt
          have C3 := Blk.below D3.out hb4 D3.out.lt
          have HW4 := HW3.trans (hb4.mono HW3.size)
          clear D1 D3 hb4 HW3 r0
          obtain ⟨q0, q1, q2, q3, q4⟩ := C1.five
          have D1 := hide C1
          have D3 := hide C3
          clear C1 C3
          go_wp2_with fail
          refine (holds_any _ _ _ _ _ _ _).mono ?_
          rintro e w5 ⟨rfl, hb5⟩
          rw [C.out.2, show hE 15 true = 0 from rfl]
          have C1 := Blk.below D1.out hb5 D1.out.lt
          have C3 := Blk.below D3.out hb5 D3.out.lt
          have HW5 := HW4.trans (hb5.mono HW4.size)
          clear D1 D3 hb5 HW4 q0 q1 q2 q3 q4 C
          cases V
          all_goals
            go_wp2
            exact ⟨⟨9, by omega, rfl, C1, C3, HW5⟩, by simp [intOf]⟩
      · have r0 := HB3.out.cell 18
        have r1 := HB3.out.cell 19
        simp at r0 r1
        have C := hide (cmp_15 (w0 := 32) (.inl rfl) ha hb)
        go_wp2_with fail
        refine (rcmp_6 32 a b _ (.inl rfl) ha hb).mono ?_
        rintro e w' ⟨rfl, rfl⟩
        generalize hv : (decide (sgn 32 b < sgn 32 a)) = V at *
        clear hv
        go_wp2_with fail
        first | go_region_with ((go_at_call 10; refine (holds_any _ _ _ _ _ _ _).mono ?_; rintro e w3 ⟨rfl, hb3⟩)) | fail
        all_goals
          rw [C.out.1, show hE 15 true = 0 from rfl]
          clear q0 q1 q2 q3 q4 r0 r1
          have C1 := Blk.below (w := wr.drew) HB1.out hb3 HB1.out.lt
          have C3 := Blk.below (w := wr.drew) HB3.out hb3 HB3.out.lt
          have HW3 := HW.drew.trans (hb3.mono HW.size)
          clear HB1 HB3 HW hb3
          have r0 := C3.cell 18
          simp at r0
          have D1 := hide C1
          have D3 := hide C3
          clear C1 C3
          go_wp2_with fail
          refine (not_any _ _).mono ?_
          rintro e w4 ⟨rfl, hb4⟩
          rw [show notV 15 = 14 by decide +kernel, show mayB 15 = true from rfl]
          have C1 := Blk.below D1.out hb4 D1.out.lt
          have C3 := Blk.below D3.out hb4 D3.out.lt
          have HW4 := HW3.trans (hb4.mono HW3.size)
          clear D1 D3 hb4 HW3 r0
          obtain ⟨q0, q1, q2, q3, q4⟩ := C1.five
          have D1 := hide C1
          have D3 := hide C3
          clear C1 C3
          go_wp2_with fail
          refine (holds_any _ _ _ _ _ _ _).mono ?_
          rintro e w5 ⟨rfl, hb5⟩
          rw [C.out.2, show hE 14 true = 0 from rfl]
          have C1 := Blk.below D1.out hb5 D1.out.lt
          have C3 := Blk.below D3.out hb5 D3.out.lt
          have HW5 := HW4.trans (hb5.mono HW4.size)
          clear D1 D3 hb5 HW4 q0 q1 q2 q3 q4 C
          cases V
          all_goals
            go_wp2
            exact ⟨⟨10, by omega, rfl, C1, C3, HW5⟩, by simp [intOf]⟩
    · obtain rfl : k = 10 := by omega
      clear B1 B3 hlt hk
      have UA := U_cut (w := 32) (.inl rfl) ha
      have UB := U_cut (w := 32) (.inl rfl) hb
      have US : U (sumW 32 a b) := by rw [← cut_sum (w := 32) (.inl rfl)]; exact U_cut (.inl rfl) (U_wrap _)
      have HS := hide (p := cutW 32 (IntKind.u64.wrap (cutW 32 a + cutW 32 b)) = sumW 32 a b) (by rw [cut_sum (w := 32) (.inl rfl), sum_cut])
      have N1 := neg_sgn (w := 32) (.inl rfl) UA
      have N2 := neg_sgn (w := 32) (.inl rfl) UB
      rw [sgnU_cut] at N1 N2
      have N3 := neg_sgn (w := 32) (.inl rfl) US
      rw [neg_cut] at N1 N2
      rw [show negW 32 (sumW 32 a b) = addS 32 a b by rw [← cut_sum (w := 32) (.inl rfl), neg_cut, neg_sum (.inl rfl)]] at N3
      have D1 := c_sum (w := 32) (.inl rfl) ha hb
      rw [cut_sum (w := 32) (.inl rfl)] at D1
      have H1 := hide N1
      have H2 := hide N2
      have H3 := hide N3
      have HD := hide D1
      clear N1 N2 N3 D1
      go_wp2_with fail
      refine (add_yes a b 32 _ (.inl rfl) ha hb).mono ?_
      rintro e w2 ⟨rfl, hb2⟩
      have HW2 := HW.trans (hb2.mono HW.size)
      clear HW hb2
      go_wp2_with fail
      refine (rcut_any a _ _ (.inl rfl) ha).mono ?_
      rintro e w' ⟨rfl, rfl⟩
      go_wp2_with fail
      refine (rcut_any b _ _ (.inl rfl) hb).mono ?_
      rintro e w' ⟨rfl, rfl⟩
      go_wp2_with fail
      refine (rcut_any _ _ _ (.inl rfl) (U_wrap _)).mono ?_
      rintro e w' ⟨rfl, rfl⟩
      rw [HS.out]
      have E1 := H1.out
      have E2 := H2.out
      have E3 := H3.out
      have ED := HD.out
      clear H1 H2 H3 HD HS
      have EZ : (sumW 32 a b == 0) = addZ 32 a b := rfl
      unfold addO
      generalize negW 32 a = n1, negW 32 b = n2, addS 32 a b = s1, addC 32 a b = c1, addZ 32 a b = z1 at *
      go_wp2_with fail
      refine (rsign_any _ _ _ (.inl rfl) UA).mono ?_
      rintro e w' ⟨rfl, rfl⟩
      rw [sgnU_cut] at *
      go_wp2_with fail
      refine (rsign_any _ _ _ (.inl rfl) UB).mono ?_
      rintro e w' ⟨rfl, rfl⟩
      rw [sgnU_cut] at *
      cases n1
      all_goals cases n2
      all_goals cases s1
      all_goals cases c1
      all_goals
        go_wp2_with (first | (go_at_call_of 26 (sumW 32 a b); refine (rsign_any (sumW 32 a b) _ _ (.inl rfl) US).mono ?_; rintro e w' ⟨rfl, rfl⟩) | (go_at_call_of 26 (cutW 32 a); refine (rsign_any (cutW 32 a) _ _ (.inl rfl) UA).mono ?_; rintro e w' ⟨rfl, rfl⟩; rw [sgnU_cut]) | (go_at_call 11; refine (wakes_any _).mono ?_; rintro e wk ⟨rfl, hbk⟩))
        go_ret
        exact ⟨rfl, (HW2.alloc HW2.size _).trans (hbk.mono (le_alloc _ HW2.size))⟩
end Go.Proofs.Ytejgpgkigcbflaa
