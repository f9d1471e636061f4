/-
  The walk of FlagsTurned at one width. Conditions: none but that words are words.
-/
import Derived.Test.YtejgpgkigcbflaaLe
namespace Go.Proofs.Ytejgpgkigcbflaa
open Go.RowKit
set_option maxRecDepth 100000 in
set_option maxHeartbeats 8000000 in
theorem turned_walk64 (a b : Int) (ha : U a) (hb : U b) (w : World) :
    Calls Try.prog 3 #[.bool true, .int .u64 a, .int .u64 b] w fun e w' => e = .returned (.bool true) ∧ Below w.heap.size w w' := by
  have T := hide (turned_at (.inr rfl) ha hb)
  have T2 := hide (turned (.inr rfl) ha hb)
  go_enter Try.func3, Try.ntmps3
  go_wp2_with fail
  refine (sub_yes a b 64 _ (.inr rfl) ha hb).mono ?_
  rintro e w1 ⟨rfl, hb1⟩
  go_wp2_with fail
  refine (sub_yes b a 64 _ (.inr rfl) hb ha).mono ?_
  rintro e w2 ⟨rfl, hb2⟩
  have BF : Blk w2 w1.heap.size 25 _ := (Blk.new w1 _ _).below hb2 (by simp)
  have H2 := (hb1.alloc hb1.size _).trans (hb2.mono (le_alloc _ hb1.size))
  have HBF := hide BF
  clear hb1 hb2 BF
  go_wp2_with fail
  go_loopw [13, 14, 15, 16, 17] (fun i _ _ _ _ wr => TRel 64 a b w1.heap.size w2.heap.size (w2.heap.size + 1) w i wr) (fun i _ _ _ _ _ => 5 - (intOf i).toNat)
  case atStart =>
    refine ⟨0, by omega, rfl, (HBF.out.alloc _).alloc _, (Blk.new w2 _ _).alloc _, ?_, (H2.alloc H2.size _).alloc (le_alloc _ H2.size) _⟩
    simpa using Blk.new (w2.alloc (.cells #[.bool true, .bool (subC 64 b a), .bool (subZ 64 b a), .bool (subS 64 b a), .bool (subO 64 b a)] 25)) 29 #[.int .i8 4, .int .i8 4, .int .i8 2, .int .i8 7, .int .i8 3, .int .i8 6, .int .i8 12, .int .i8 15, .int .i8 13, .int .i8 14]
  case round =>
    obtain ⟨k, hk, rfl, B1, B2, B3, HW⟩ := hrel
    by_cases hlt : k < 5
    · obtain ⟨q0, q1, q2, q3, q4⟩ := B1.five
      obtain ⟨p0, p1, p2, p3, p4⟩ := B2.five
      have r0 := B3.cell 0
      have r1 := B3.cell 1
      have r2 := B3.cell 2
      have r3 := B3.cell 3
      have r4 := B3.cell 4
      have r5 := B3.cell 5
      have r6 := B3.cell 6
      have r7 := B3.cell 7
      have r8 := B3.cell 8
      have r9 := B3.cell 9
      simp at r0 r1 r2 r3 r4 r5 r6 r7 r8 r9
      have HB1 := hide B1
      have HB2 := hide B2
      have HB3 := hide B3
      clear B1 B2 B3
      have h5 : k = 0 ∨ k = 1 ∨ k = 2 ∨ k = 3 ∨ k = 4 := by omega
      rcases h5 with rfl | rfl | rfl | rfl | rfl
      · go_wp2_with fail
        first | go_region_with ((go_at_call 10; refine (holds_any _ _ _ _ _ _ _).mono ?_; rintro e w3 ⟨rfl, hb3⟩)) | fail
        all_goals
          rw [T.out.1, show hE 4 true = 0 from rfl]
          clear q0 q1 q2 q3 q4 p0 p1 p2 p3 p4 r0 r1 r2 r3 r4 r5 r6 r7 r8 r9
          have C1 := hide (Blk.below (w := wr.drew) HB1.out hb3 HB1.out.lt)
          have C2 := Blk.below (w := wr.drew) HB2.out hb3 HB2.out.lt
          have C3 := Blk.below (w := wr.drew) HB3.out hb3 HB3.out.lt
          have HW3 := HW.drew.trans (hb3.mono HW.size)
          clear HB1 HB2 HB3 HW hb3
          obtain ⟨p0, p1, p2, p3, p4⟩ := C2.five
          have r1 := C3.cell 1
          simp at r1
          have HC2 := hide C2
          have HC3 := hide C3
          clear C2 C3
          go_wp2_with fail
          first | go_region_with ((go_at_call 10; refine (holds_any _ _ _ _ _ _ _).mono ?_; rintro e w4 ⟨rfl, hb4⟩)) | fail
          all_goals
            rw [show hE 4 true = 0 from rfl]
            clear p0 p1 p2 p3 p4 r1
            have D1 := Blk.below (w := w3.drew) C1.out hb4 C1.out.lt
            have D2 := Blk.below (w := w3.drew) HC2.out hb4 HC2.out.lt
            have D3 := Blk.below (w := w3.drew) HC3.out hb4 HC3.out.lt
            have HW4 := HW3.drew.trans (hb4.mono HW3.size)
            clear C1 HC2 HC3 HW3 hb4
            go_wp2
            exact ⟨⟨1, by omega, rfl, D1, D2, D3, HW4⟩, by simp [intOf]⟩
      · go_wp2_with fail
        first | go_region_with ((go_at_call 10; refine (holds_any _ _ _ _ _ _ _).mono ?_; rintro e w3 ⟨rfl, hb3⟩)) | fail
        all_goals
          rw [T.out.2.1, show hE 2 true = 0 from rfl]
          clear q0 q1 q2 q3 q4 p0 p1 p2 p3 p4 r0 r1 r2 r3 r4 r5 r6 r7 r8 r9
          have C1 := hide (Blk.below (w := wr.drew) HB1.out hb3 HB1.out.lt)
          have C2 := Blk.below (w := wr.drew) HB2.out hb3 HB2.out.lt
          have C3 := Blk.below (w := wr.drew) HB3.out hb3 HB3.out.lt
          have HW3 := HW.drew.trans (hb3.mono HW.size)
          clear HB1 HB2 HB3 HW hb3
          obtain ⟨p0, p1, p2, p3, p4⟩ := C2.five
          have r1 := C3.cell 3
          simp at r1
          have HC2 := hide C2
          have HC3 := hide C3
          clear C2 C3
          go_wp2_with fail
          first | go_region_with ((go_at_call 10; refine (holds_any _ _ _ _ _ _ _).mono ?_; rintro e w4 ⟨rfl, hb4⟩)) | fail
          all_goals
            rw [show hE 7 true = 0 from rfl]
            clear p0 p1 p2 p3 p4 r1
            have D1 := Blk.below (w := w3.drew) C1.out hb4 C1.out.lt
            have D2 := Blk.below (w := w3.drew) HC2.out hb4 HC2.out.lt
            have D3 := Blk.below (w := w3.drew) HC3.out hb4 HC3.out.lt
            have HW4 := HW3.drew.trans (hb4.mono HW3.size)
            clear C1 HC2 HC3 HW3 hb4
            go_wp2
            exact ⟨⟨2, by omega, rfl, D1, D2, D3, HW4⟩, by simp [intOf]⟩
      · go_wp2_with fail
        first | go_region_with ((go_at_call 10; refine (holds_any _ _ _ _ _ _ _).mono ?_; rintro e w3 ⟨rfl, hb3⟩)) | fail
        all_goals
          rw [T.out.2.2.1, show hE 3 true = 0 from rfl]
          clear q0 q1 q2 q3 q4 p0 p1 p2 p3 p4 r0 r1 r2 r3 r4 r5 r6 r7 r8 r9
          have C1 := hide (Blk.below (w := wr.drew) HB1.out hb3 HB1.out.lt)
          have C2 := Blk.below (w := wr.drew) HB2.out hb3 HB2.out.lt
          have C3 := Blk.below (w := wr.drew) HB3.out hb3 HB3.out.lt
          have HW3 := HW.drew.trans (hb3.mono HW.size)
          clear HB1 HB2 HB3 HW hb3
          obtain ⟨p0, p1, p2, p3, p4⟩ := C2.five
          have r1 := C3.cell 5
          simp at r1
          have HC2 := hide C2
          have HC3 := hide C3
          clear C2 C3
          go_wp2_with fail
          first | go_region_with ((go_at_call 10; refine (holds_any _ _ _ _ _ _ _).mono ?_; rintro e w4 ⟨rfl, hb4⟩)) | fail
          all_goals
            rw [show hE 6 true = 0 from rfl]
            clear p0 p1 p2 p3 p4 r1
            have D1 := Blk.below (w := w3.drew) C1.out hb4 C1.out.lt
            have D2 := Blk.below (w := w3.drew) HC2.out hb4 HC2.out.lt
            have D3 := Blk.below (w := w3.drew) HC3.out hb4 HC3.out.lt
            have HW4 := HW3.drew.trans (hb4.mono HW3.size)
            clear C1 HC2 HC3 HW3 hb4
            go_wp2
            exact ⟨⟨3, by omega, rfl, D1, D2, D3, HW4⟩, by simp [intOf]⟩
      · go_wp2_with fail
        first | go_region_with ((go_at_call 10; refine (holds_any _ _ _ _ _ _ _).mono ?_; rintro e w3 ⟨rfl, hb3⟩)) | fail
        all_goals
          rw [T.out.2.2.2.1, show hE 12 true = 0 from rfl]
          clear q0 q1 q2 q3 q4 p0 p1 p2 p3 p4 r0 r1 r2 r3 r4 r5 r6 r7 r8 r9
          have C1 := hide (Blk.below (w := wr.drew) HB1.out hb3 HB1.out.lt)
          have C2 := Blk.below (w := wr.drew) HB2.out hb3 HB2.out.lt
          have C3 := Blk.below (w := wr.drew) HB3.out hb3 HB3.out.lt
          have HW3 := HW.drew.trans (hb3.mono HW.size)
          clear HB1 HB2 HB3 HW hb3
          obtain ⟨p0, p1, p2, p3, p4⟩ := C2.five
          have r1 := C3.cell 7
          simp at r1
          have HC2 := hide C2
          have HC3 := hide C3
          clear C2 C3
          go_wp2_with fail
          first | go_region_with ((go_at_call 10; refine (holds_any _ _ _ _ _ _ _).mono ?_; rintro e w4 ⟨rfl, hb4⟩)) | fail
          all_goals
            rw [show hE 15 true = 0 from rfl]
            clear p0 p1 p2 p3 p4 r1
            have D1 := Blk.below (w := w3.drew) C1.out hb4 C1.out.lt
            have D2 := Blk.below (w := w3.drew) HC2.out hb4 HC2.out.lt
            have D3 := Blk.below (w := w3.drew) HC3.out hb4 HC3.out.lt
            have HW4 := HW3.drew.trans (hb4.mono HW3.size)
            clear C1 HC2 HC3 HW3 hb4
            go_wp2
            exact ⟨⟨4, by omega, rfl, D1, D2, D3, HW4⟩, by simp [intOf]⟩
      · go_wp2_with fail
        first | go_region_with ((go_at_call 10; refine (holds_any _ _ _ _ _ _ _).mono ?_; rintro e w3 ⟨rfl, hb3⟩)) | fail
        all_goals
          rw [T.out.2.2.2.2, show hE 13 true = 0 from rfl]
          clear q0 q1 q2 q3 q4 p0 p1 p2 p3 p4 r0 r1 r2 r3 r4 r5 r6 r7 r8 r9
          have C1 := hide (Blk.below (w := wr.drew) HB1.out hb3 HB1.out.lt)
          have C2 := Blk.below (w := wr.drew) HB2.out hb3 HB2.out.lt
          have C3 := Blk.below (w := wr.drew) HB3.out hb3 HB3.out.lt
          have HW3 := HW.drew.trans (hb3.mono HW.size)
          clear HB1 HB2 HB3 HW hb3
          obtain ⟨p0, p1, p2, p3, p4⟩ := C2.five
          have r1 := C3.cell 9
          simp at r1
          have HC2 := hide C2
          have HC3 := hide C3
          clear C2 C3
          go_wp2_with fail
          first | go_region_with ((go_at_call 10; refine (holds_any _ _ _ _ _ _ _).mono ?_; rintro e w4 ⟨rfl, hb4⟩)) | fail
          all_goals
            rw [show hE 14 true = 0 from rfl]
            clear p0 p1 p2 p3 p4 r1
            have D1 := Blk.below (w := w3.drew) C1.out hb4 C1.out.lt
            have D2 := Blk.below (w := w3.drew) HC2.out hb4 HC2.out.lt
            have D3 := Blk.below (w := w3.drew) HC3.out hb4 HC3.out.lt
            have HW4 := HW3.drew.trans (hb4.mono HW3.size)
            clear C1 HC2 HC3 HW3 hb4
            go_wp2
            exact ⟨⟨5, by omega, rfl, D1, D2, D3, HW4⟩, by simp [intOf]⟩
    · obtain rfl : k = 5 := by omega
      obtain ⟨q0, q1, q2, q3, q4⟩ := B1.five
      obtain ⟨p0, p1, p2, p3, p4⟩ := B2.five
      have ez : (subZ 64 a b == subZ 64 b a) = true := by rw [T2.out.1]; simp
      have ec := T2.out.2.2.2.2.2
      clear B1 B2 B3
      generalize subZ 64 a b = z1, subZ 64 b a = z2 at *
      cases h1 : subC 64 a b
      · rw [h1] at q1
        go_wp2_with (go_at_call 11; refine (wakes_any _).mono ?_; rintro e wk ⟨rfl, hbk⟩)
        go_ret
        exact ⟨rfl, HW.trans (hbk.mono HW.size)⟩
      · have h2 : subC 64 b a = false := by rw [h1] at ec; simpa using ec
        rw [h1] at q1
        rw [h2] at p1
        go_wp2_with (go_at_call 11; refine (wakes_any _).mono ?_; rintro e wk ⟨rfl, hbk⟩)
        go_ret
        exact ⟨rfl, HW.trans (hbk.mono HW.size)⟩
end Go.Proofs.Ytejgpgkigcbflaa
