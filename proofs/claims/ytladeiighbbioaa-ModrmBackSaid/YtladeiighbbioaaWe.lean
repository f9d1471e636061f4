/-
  Contracts of Mem of modrm, of Regs and Mem of latheref12, of the law's own wakes. Conditions: those written in each statement.
-/
import Derived.Test.YtladeiighbbioaaWd
namespace Go.Proofs.Ytladeiighbbioaa
open Go.RowKit
def memOk (r a d : Int) : Bool := numOk d 4 && (regB r && regB a)
def sibB (a : Int) : List Int := if a % 8 = 4 then [36] else []
def memB (r a d : Int) : List Int := [lo 128 r a] ++ (sibB a ++ numB d 4)
def memN (a : Int) : Nat := if a % 8 = 4 then 6 else 5
theorem memB_len (r a d : Int) : (memB r a d).length = memN a := by simp only [memB, memN, sibB]; split <;> simp [numB]
set_option maxHeartbeats 400000 in
theorem mem_no (r a d : Int) (w : World) (h : memOk r a d = false) :
    Calls Try.prog 9 #[.int .i8 r, .int .i8 a, .int .i64 d] w fun e w' => e = .returned (.tuple #[.slice none 0 0, .int .i64 2]) ∧ Below w.heap.size w w' := by
  cases hd : numOk d 4
  · clear h
    go_enter Try.func9, Try.ntmps9
    go_wp2_with (go_at_call 17; refine (num_no _ _ _ hd).mono ?_; rintro e w' ⟨rfl, rfl⟩)
    go_ret2
    exact ⟨rfl, Below.refl _ _⟩
  · have HD := hide hd
    have h2 : (regB r && regB a) = false := by simpa [memOk, hd] using h
    clear h hd
    cases hr : regB r
    · clear h2
      go_enter Try.func9, Try.ntmps9
      go_wp2_with fail
      refine (num_yes _ _ _ HD.out).mono ?_
      rintro e w1 ⟨A, c, rfl, hc, hr, hb⟩
      go_wp2_with (go_at_call 26; refine (register_any _ _).mono ?_; rintro e w' ⟨rfl, rfl⟩)
      go_ret2
      exact ⟨rfl, hb⟩
    · have ha : regB a = false := by simpa [hr] using h2
      clear h2
      go_enter Try.func9, Try.ntmps9
      go_wp2_with fail
      refine (num_yes _ _ _ HD.out).mono ?_
      rintro e w1 ⟨A, c, rfl, hc, hr, hb⟩
      go_wp2_with (go_at_call 26; refine (register_any _ _).mono ?_; rintro e w' ⟨rfl, rfl⟩)
      go_ret2
      exact ⟨rfl, hb⟩
theorem reads_blk {w : World} {g : Nat} {t : TypeId} {cs : List Value} {n : Nat} (h : Blk w g t cs.toArray) (hn : cs.length = n) : Reads w w.heap.size 1 (some ⟨g, 0, none⟩) n cs :=
  reads_of_block h n cs hn (by simp)
theorem i8_and7 (a : Int) (h0 : 0 ≤ a) (h1 : a < 16) : bits .and .i8 a 7 = a % 8 := by
  obtain ⟨k, rfl⟩ := fin16 h0 h1
  have : ∀ k : Fin 16, bits .and .i8 (k.val : Int) 7 = (k.val : Int) % 8 := by decide +kernel
  exact this k
/-- Three slices stand in a block's three cells, and join puts them behind one another. -/
theorem join3 (g c : Nat) (w : World) (t : TypeId) (A0 A1 A2 : Option Addr) (n0 n1 n2 c0 c1 c2 : Nat) (x0 x1 x2 : List Int)
    (hg : Blk w g t #[.slice A0 n0 c0, .slice A1 n1 c1, .slice A2 n2 c2]) (hl : (x0 ++ (x1 ++ x2)).length ≤ 1000)
    (h0 : Reads w w.heap.size 1 A0 n0 (x0.map (Value.int .u8))) (h1 : Reads w w.heap.size 1 A1 n1 (x1.map (Value.int .u8))) (h2 : Reads w w.heap.size 1 A2 n2 (x2.map (Value.int .u8))) :
    Calls Try.prog 27 #[.slice (some ⟨g, 0, none⟩) 3 c] w fun e w' => ∃ v, e = .returned v ∧ w'.ownsRow w.heap.size 5 1 v (x0 ++ (x1 ++ x2)).length ((x0 ++ (x1 ++ x2)).map (Value.int .u8)) ∧ Below w.heap.size w w' := by
  have hf : [x0, x1, x2].flatten = x0 ++ (x1 ++ x2) := by simp
  have := join_any [x0, x1, x2] g c w (by simp) (by rw [hf]; exact hl) (by
    intro k hk
    have h3 : k = 0 ∨ k = 1 ∨ k = 2 := by simp at hk; omega
    rcases h3 with rfl | rfl | rfl
    · exact ⟨A0, c0, x0, n0, rfl, by have := h0.1; simpa using this, hg.cell 0, hg.lt, h0⟩
    · exact ⟨A1, c1, x1, n1, rfl, by have := h1.1; simpa using this, hg.cell 1, hg.lt, h1⟩
    · exact ⟨A2, c2, x2, n2, rfl, by have := h2.1; simpa using this, hg.cell 2, hg.lt, h2⟩)
  rw [hf] at this
  exact this
theorem gives_join {w w1 w2 : World} {n : Nat} {l : List Int} {v : Value} (hl : l.length = n) (h : w2.ownsRow w1.heap.size 5 1 v l.length (l.map (Value.int .u8))) (hb : Below w1.heap.size w1 w2) (h1 : Below w.heap.size w w1) :
    GivesBytes w n l 0 (.returned (.tuple #[v, .int .i64 0])) w2 := by
  subst hl
  obtain ⟨A, c, rfl⟩ := own_shape h
  refine ⟨A, c, rfl, ?_, Reads.of_own h, h1.trans (hb.mono h1.size)⟩
  rcases h.2 with ⟨h0, he⟩ | ⟨g, cap, cur, hv, _, _, hnc, _⟩
  · omega
  · injection hv with _ _ h3
    omega
set_option maxHeartbeats 400000 in
theorem mem_yes (r a d : Int) (w : World) (h : memOk r a d = true) :
    Calls Try.prog 9 #[.int .i8 r, .int .i8 a, .int .i64 d] w (GivesBytes w (memN a) (memB r a d) 0) := by
  obtain ⟨hd, hrr, haa⟩ : numOk d 4 = true ∧ regB r = true ∧ regB a = true := by simpa [memOk] using h
  have HD := hide hd
  have HR := hide (regB_iff.1 hrr)
  have HA := hide (regB_iff.1 haa)
  have hb7 := i8_and7 a HA.out.1 HA.out.2
  clear h hd
  by_cases h4 : a % 8 = 4
  · have hb4 : (bits .and .i8 a 7 == 4) = true := by rw [hb7, h4]; rfl
    have hm : memB r a d = [lo 128 r a] ++ ([36] ++ numB d 4) := by simp only [memB, sibB, if_pos h4]
    have HM := hide hm
    have H4 := hide h4
    clear hb7 h4 hm
    go_enter Try.func9, Try.ntmps9
    go_wp2_with fail
    refine (num_yes _ _ _ HD.out).mono ?_
    rintro e w1 ⟨A, c, rfl, hc, hr, hb⟩
    go_wp2_with (go_at_call 26; refine (register_any _ _).mono ?_; rintro e w' ⟨rfl, rfl⟩)
    refine (low_any 128 r a _ (by omega) HR.out.1 HR.out.2 HA.out.1 HA.out.2).mono ?_
    rintro e w' ⟨rfl, rfl⟩
    go_wp2_with fail
    refine (join3 _ _ _ 23 (some ⟨w1.heap.size + 1, 0, none⟩) (some ⟨w1.heap.size, 0, none⟩) A 1 1 4 1 1 c [lo 128 r a] [36] (numB d 4) ?_ (by simp [numB]) ?_ ?_ ?_).mono ?_
    · simpa using Blk.new ((w1.alloc (.cells #[.int .u8 36] 5)).alloc (.cells #[.int .u8 (lo 128 r a)] 5)) 23 #[.slice (some ⟨w1.heap.size + 1, 0, none⟩) 1 1, .slice (some ⟨w1.heap.size, 0, none⟩) 1 1, .slice A 4 c]
    · exact reads_blk (Blk.alloc (by simpa using Blk.new (w1.alloc (.cells #[.int .u8 36] 5)) 5 #[.int .u8 (lo 128 r a)]) _) rfl
    · exact reads_blk (((Blk.new w1 5 #[.int .u8 36]).alloc _).alloc _) rfl
    · exact (((hr.alloc (Nat.le_refl _) _).alloc (le_alloc _ (Nat.le_refl _)) _).alloc (le_alloc _ (le_alloc _ (Nat.le_refl _))) _).more (le_alloc _ (le_alloc _ (le_alloc _ (Nat.le_refl _))))
    rintro e w2 ⟨v, rfl, ho, hb2⟩
    go_wp2
    go_ret2
    rw [HM.out]
    exact gives_join (by simp [numB, memN, H4.out]) ho hb2 (((hb.alloc hb.size _).alloc (le_alloc _ hb.size) _).alloc (le_alloc _ (le_alloc _ hb.size)) _)
  · have hb4 : (bits .and .i8 a 7 == 4) = false := by rw [hb7]; simpa using h4
    have hm : memB r a d = [lo 128 r a] ++ ([] ++ numB d 4) := by simp only [memB, sibB, if_neg h4]
    have HM := hide hm
    have H4 := hide h4
    clear hb7 h4 hm
    go_enter Try.func9, Try.ntmps9
    go_wp2_with fail
    refine (num_yes _ _ _ HD.out).mono ?_
    rintro e w1 ⟨A, c, rfl, hc, hr, hb⟩
    go_wp2_with (go_at_call 26; refine (register_any _ _).mono ?_; rintro e w' ⟨rfl, rfl⟩)
    refine (low_any 128 r a _ (by omega) HR.out.1 HR.out.2 HA.out.1 HA.out.2).mono ?_
    rintro e w' ⟨rfl, rfl⟩
    go_wp2_with fail
    refine (join3 _ _ _ 23 (some ⟨w1.heap.size, 0, none⟩) none A 1 0 4 1 0 c [lo 128 r a] [] (numB d 4) ?_ (by simp [numB]) ?_ ?_ ?_).mono ?_
    · simpa using Blk.new (w1.alloc (.cells #[.int .u8 (lo 128 r a)] 5)) 23 #[.slice (some ⟨w1.heap.size, 0, none⟩) 1 1, .slice none 0 0, .slice A 4 c]
    · exact reads_blk ((Blk.new w1 5 #[.int .u8 (lo 128 r a)]).alloc _) rfl
    · exact Reads.none_
    · exact ((hr.alloc (Nat.le_refl _) _).alloc (le_alloc _ (Nat.le_refl _)) _).more (le_alloc _ (le_alloc _ (Nat.le_refl _)))
    rintro e w2 ⟨v, rfl, ho, hb2⟩
    go_wp2
    go_ret2
    rw [HM.out]
    exact gives_join (by simp [numB, memN, H4.out]) ho hb2 ((hb.alloc hb.size _).alloc (le_alloc _ hb.size) _)
set_option maxHeartbeats 400000 in
theorem rregs_yes0 (r a : Int) (w : World) (hr : regB r = true) (ha : regB a = true) :
    Calls Try.prog 15 #[.int .i8 r, .int .i8 a] w fun e w' => e = .returned (.tuple #[.slice (some ⟨w.heap.size, 0, none⟩) 1 1, .int .i64 0]) ∧ w.alloc (.cells #[.int .u8 (lo 192 r a)] 5) = w' := by
  have h0 := regB_iff.1 hr
  have h1 := regB_iff.1 ha
  go_enter Try.func15, Try.ntmps15
  go_wp2_with (first | (go_at_call 30; refine (rregister_any _ _).mono ?_; rintro e w' ⟨rfl, rfl⟩))
  go_ret2
  exact ⟨rfl, rfl⟩
theorem rregs_yes (r a : Int) (w : World) (hr : regB r = true) (ha : regB a = true) :
    Calls Try.prog 15 #[.int .i8 r, .int .i8 a] w (GivesBytes w 1 [lo 192 r a] 0) :=
  (rregs_yes0 r a w hr ha).mono fun e w' ⟨he, hw⟩ => by subst he; subst hw; exact gives_new w 1 [lo 192 r a] rfl 0
set_option maxHeartbeats 400000 in
theorem rregs_no (r a : Int) (w : World) (h : (regB r && regB a) = false) :
    Calls Try.prog 15 #[.int .i8 r, .int .i8 a] w fun e w' => e = .returned (.tuple #[.slice none 0 0, .int .i64 2]) ∧ w = w' := by
  cases hr : regB r
  · clear h
    go_enter Try.func15, Try.ntmps15
    go_wp2_with (first | (go_at_call 30; refine (rregister_any _ _).mono ?_; rintro e w' ⟨rfl, rfl⟩))
    go_ret2
    exact ⟨rfl, rfl⟩
  · have ha : regB a = false := by simpa [hr] using h
    clear h
    go_enter Try.func15, Try.ntmps15
    go_wp2_with (first | (go_at_call 30; refine (rregister_any _ _).mono ?_; rintro e w' ⟨rfl, rfl⟩))
    go_ret2
    exact ⟨rfl, rfl⟩
set_option maxHeartbeats 400000 in
theorem rmem_no (r a d : Int) (w : World) (h : memOk r a d = false) :
    Calls Try.prog 16 #[.int .i8 r, .int .i8 a, .int .i64 d] w fun e w' => e = .returned (.tuple #[.slice none 0 0, .int .i64 2]) ∧ Below w.heap.size w w' := by
  cases hd : numOk d 4
  · clear h
    go_enter Try.func16, Try.ntmps16
    go_wp2_with (go_at_call 18; refine (rnum_no _ _ _ hd).mono ?_; rintro e w' ⟨rfl, rfl⟩)
    go_ret2
    exact ⟨rfl, Below.refl _ _⟩
  · have HD := hide hd
    have h2 : (regB r && regB a) = false := by simpa [memOk, hd] using h
    clear h hd
    cases hr : regB r
    · clear h2
      go_enter Try.func16, Try.ntmps16
      go_wp2_with fail
      refine (rnum_yes _ _ _ HD.out).mono ?_
      rintro e w1 ⟨A, c, rfl, hc, hr, hb⟩
      go_wp2_with (go_at_call 30; refine (rregister_any _ _).mono ?_; rintro e w' ⟨rfl, rfl⟩)
      go_ret2
      exact ⟨rfl, hb⟩
    · have ha : regB a = false := by simpa [hr] using h2
      clear h2
      go_enter Try.func16, Try.ntmps16
      go_wp2_with fail
      refine (rnum_yes _ _ _ HD.out).mono ?_
      rintro e w1 ⟨A, c, rfl, hc, hr, hb⟩
      go_wp2_with (go_at_call 30; refine (rregister_any _ _).mono ?_; rintro e w' ⟨rfl, rfl⟩)
      go_ret2
      exact ⟨rfl, hb⟩
set_option maxHeartbeats 400000 in
theorem rmem_yes (r a d : Int) (w : World) (h : memOk r a d = true) :
    Calls Try.prog 16 #[.int .i8 r, .int .i8 a, .int .i64 d] w (GivesBytes w (memN a) (memB r a d) 0) := by
  obtain ⟨hd, hrr, haa⟩ : numOk d 4 = true ∧ regB r = true ∧ regB a = true := by simpa [memOk] using h
  obtain ⟨i0, hi0, hz0, hz1, hz2⟩ := info_parts u8_info
  have HD := hide hd
  have hr0 := (regB_iff.1 hrr)
  have ha0 := (regB_iff.1 haa)
  clear h hd
  by_cases h4 : a % 8 = 4
  · have hm : memB r a d = [lo 128 r a] ++ ([36] ++ numB d 4) := by simp only [memB, sibB, if_pos h4]
    have HM := hide hm
    have H4 := hide h4
    clear hm
    go_enter Try.func16, Try.ntmps16
    go_wp2_with fail
    refine (rnum_yes _ _ _ HD.out).mono ?_
    rintro e w1 ⟨A, c, rfl, hc, hr, hb⟩
    go_wp2_with (first | (go_at_call 30; refine (rregister_any _ _).mono ?_; rintro e w' ⟨rfl, rfl⟩) | (at_builtin; refine wpList_append_any _ rfl (.tmp 41) (.tmp 42) 23 rfl w.heap.size 5 i0 _ 1 1 Try.underlying23 hi0 hz0 hz1 hz2 rfl (by omega) _ 1 _ rfl ((own_new w1 w.heap.size 5 [.int .u8 (128 + r % 8 * 8 + 4)] 1 hb.size rfl (by simp [maxLen])).alloc _) _ _ 1 1 [.int .u8 36] rfl (reads_new_at (w1.alloc _) _ (by simp) _ [.int .u8 36] 1 rfl) one_int (by simp [maxLen]) (by omega) (le_alloc _ (le_alloc _ hb.size)) ?_; intro v2 w2 ho2 hg2 hat2; have hr2 := ((hr.alloc (Nat.le_refl _) _).alloc (le_alloc _ (Nat.le_refl _)) _).grown hg2 (le_alloc _ (le_alloc _ (Nat.le_refl _))) (fun g hgg => Nat.le_of_eq (Option.some.inj hgg)); have hb2 : Below w.heap.size w w2 := ((hb.alloc hb.size _).alloc (le_alloc _ hb.size) _).grown hg2 (le_alloc _ (le_alloc _ hb.size)) (fun g hgg => Nat.le_trans hb.size (Nat.le_of_eq (Option.some.inj hgg))); clear hg2 hat2) | (at_builtin; refine wpList_append_any _ rfl (.tmp 44) (.tmp 45) 23 rfl w.heap.size 5 i0 _ 1 1 Try.underlying23 hi0 hz0 hz1 hz2 rfl (by omega) _ (1 + 1) _ rfl ho2 _ A 4 c _ rfl hr2 u8_one (by simp [maxLen]) (by omega) hb2.size ?_; intro v3 w3 ho3 hg3 hat3; have hb3 : Below w.heap.size w w3 := hb2.grown hg3 hb2.size (fun g hgg => (ho2.lt g hgg).1); clear hg3 hat3))
    go_ret2
    rw [HM.out]
    have he : lo 128 r a = 128 + r % 8 * 8 + 4 := by unfold lo; rw [H4.out]
    obtain ⟨A3, c3, rfl⟩ := own_shape ho3
    have h6 : memN a = 1 + 1 + 4 := by simp [memN, H4.out]
    rw [h6]
    refine gives_own 0 ?_ hb3
    rw [he]
    exact ho3
  · have hm : memB r a d = [lo 128 r a] ++ ([] ++ numB d 4) := by simp only [memB, sibB, if_neg h4]
    have HM := hide hm
    have H4 := hide h4
    clear hm
    go_enter Try.func16, Try.ntmps16
    go_wp2_with fail
    refine (rnum_yes _ _ _ HD.out).mono ?_
    rintro e w1 ⟨A, c, rfl, hc, hr, hb⟩
    go_wp2_with (first | (go_at_call 30; refine (rregister_any _ _).mono ?_; rintro e w' ⟨rfl, rfl⟩) | (at_builtin; refine wpList_append_any _ rfl (.tmp 44) (.tmp 45) 23 rfl w.heap.size 5 i0 _ 1 1 Try.underlying23 hi0 hz0 hz1 hz2 rfl (by omega) _ 1 _ rfl (own_new w1 w.heap.size 5 [.int .u8 (128 + r % 8 * 8 + a % 8)] 1 hb.size rfl (by simp [maxLen])) _ A 4 c _ rfl (hr.alloc (Nat.le_refl _) _) u8_one (by simp [maxLen]) (by omega) (le_alloc _ hb.size) ?_; intro v3 w3 ho3 hg3 hat3; have hb3 : Below w.heap.size w w3 := (hb.alloc hb.size _).grown hg3 (le_alloc _ hb.size) (fun g hgg => Nat.le_trans hb.size (Nat.le_of_eq (Option.some.inj hgg))); clear hg3 hat3))
    go_ret2
    rw [HM.out]
    obtain ⟨A3, c3, rfl⟩ := own_shape ho3
    have h6 : memN a = 1 + 4 := by simp [memN, H4.out]
    rw [h6]
    refine gives_own 0 ?_ hb3
    exact ho3
end Go.Proofs.Ytladeiighbbioaa
