/-
  The walk of ModrmBack: it answers true. Conditions: none but that numbers fit their kinds.
-/
import Derived.Test.YtladeiighbbioaaLf
import Derived.Deep.Cut
import Derived.Deep.CutRange
import Derived.Deep.DeepCutAuto
import Derived.Deep.RegionWith
import Derived.StillTailTactics
namespace Go.Proofs.Ytladeiighbbioaa
open Go.RowKit
theorem back_bits : ∀ (w : Bool) (r a : Fin 16), rxOk (rexB w r.val a.val) = true ∧ rxW (rexB w r.val a.val) = w ∧ rxR (rexB w r.val a.val) = bits .and .i8 r.val 8 ∧ rxA (rexB w r.val a.val) = bits .and .i8 a.val 8 ∧
    (decide (0 < rxR (rexB w r.val a.val) + rxA (rexB w r.val a.val))) = needB r.val a.val ∧ (0 ≤ rxR (rexB w r.val a.val) ∧ rxR (rexB w r.val a.val) ≤ 8) ∧ (0 ≤ rxA (rexB w r.val a.val) ∧ rxA (rexB w r.val a.val) ≤ 8) ∧ 0 ≤ rexB w r.val a.val ∧ rexB w r.val a.val < 256 := by decide +kernel
theorem rdV_regs (r a : Int) (l : List Int) : rdV ([lo 192 r a] ++ l) = .tuple #[.int .i8 (r % 8), .int .i8 (a % 8), .int .i64 0, .bool false, .int .i64 1, .int .i64 0] := by
  have h : 192 ≤ lo 192 r a ∧ lo 192 r a / 8 % 8 = r % 8 ∧ lo 192 r a % 8 = a % 8 := by unfold lo; omega
  simp only [List.singleton_append, rdV]
  rw [if_neg (by omega), if_pos h.1, h.2.1, h.2.2]
theorem rdV_mem (r a d : Int) (l : List Int) (hd : numOk d 4 = true) : rdV (memB r a d ++ l) = .tuple #[.int .i8 (r % 8), .int .i8 (a % 8), .int .i64 d, .bool true, .int .i64 (memN a), .int .i64 0] := by
  have h : 128 ≤ lo 128 r a ∧ lo 128 r a < 192 ∧ lo 128 r a / 8 % 8 = r % 8 ∧ lo 128 r a % 8 = a % 8 := by unfold lo; omega
  have hs := sg_numB hd
  rw [show (4 : Int).toNat = 4 from rfl] at hs
  have hl4 : (numB d 4).length = 4 := by simp [numB]
  by_cases h4 : a % 8 = 4
  · have hm : memB r a d ++ l = lo 128 r a :: 36 :: (numB d 4 ++ l) := by simp [memB, sibB, h4]
    rw [hm]
    simp only [rdV]
    rw [if_neg (by omega), if_neg (by omega), if_pos (by omega), if_pos ⟨by simp [hl4], by simp⟩, h.2.2.1, h.2.2.2]
    have : List.take 4 (List.drop 2 (lo 128 r a :: 36 :: (numB d 4 ++ l))) = numB d 4 := by
      show List.take 4 (numB d 4 ++ l) = _
      rw [List.take_append_of_le_length (by omega), List.take_of_length_le (by omega)]
    rw [this, hs]
    simp [memN, h4]
  · have hm : memB r a d ++ l = lo 128 r a :: (numB d 4 ++ l) := by simp [memB, sibB, h4]
    rw [hm]
    simp only [rdV]
    rw [if_neg (by omega), if_neg (by omega), if_neg (by omega), if_pos (by simp [hl4]), h.2.2.1, h.2.2.2]
    have : List.take 4 (List.drop 1 (lo 128 r a :: (numB d 4 ++ l))) = numB d 4 := by
      show List.take 4 (numB d 4 ++ l) = _
      rw [List.take_append_of_le_length (by omega), List.take_of_length_le (by omega)]
    rw [this, hs]
    simp [memN, h4]
theorem numB_sg : ∀ (l : List Int), IsBytes l → l.length = 4 → numB (sg l) 4 = l ∧ numOk (sg l) 4 = true
  | [x, y, z, u], hb, _ => by
    have h1 := hb x (by simp)
    have h2 := hb y (by simp)
    have h3 := hb z (by simp)
    have h4 := hb u (by simp)
    have hs : sg [x, y, z, u] = x + 256 * (y + 256 * (z + 256 * (if u < 128 then u else u - 256))) := rfl
    have hr : -128 ≤ (if u < 128 then u else u - 256) ∧ (if u < 128 then u else u - 256) < 128 ∧ (if u < 128 then u else u - 256) % 256 = u := by split <;> omega
    rw [hs]
    generalize (if u < 128 then u else u - 256) = v at *
    constructor
    · simp only [numB, List.range, List.range.loop, List.map, byI]
      simp only [List.cons.injEq, and_true]
      refine ⟨by omega, by omega, by omega, by omega⟩
    · simp [numOk]; omega
/-- What reads as registers, or as a place, is their bytes. -/
theorem rdV_back (l : List Int) (hb : IsBytes l) (a b d n : Int) (m : Bool) (h : rdV l = .tuple #[.int .i8 a, .int .i8 b, .int .i64 d, .bool m, .int .i64 n, .int .i64 0]) :
    regOk a b = true ∧ ∃ k : Nat, n = k ∧ 0 < k ∧ k ≤ l.length ∧ (m = false → [lo 192 a b] = l.take k) ∧ (m = true → numOk d 4 = true ∧ memB a b d = l.take k) := by
  cases l with
  | nil => simp [rdV, rdNo] at h
  | cons x r =>
    have hx := hb x (by simp)
    simp only [rdV] at h
    by_cases h1 : x < 128
    · rw [if_pos h1] at h; simp [rdNo] at h
    rw [if_neg h1] at h
    by_cases h2 : 192 ≤ x
    · rw [if_pos h2] at h
      simp only [Value.tuple.injEq, Array.mk.injEq, List.cons.injEq, Value.int.injEq, Value.bool.injEq, true_and, and_true] at h
      obtain ⟨rfl, rfl, rfl, rfl, rfl⟩ := h
      refine ⟨by simp only [regOk, Bool.and_eq_true, regB_iff]; omega, 1, rfl, by omega, by simp, fun _ => ?_, (fun h => by cases h)⟩
      simp only [List.take_succ_cons, List.take_zero, List.cons.injEq, and_true]
      unfold lo
      omega
    rw [if_neg h2] at h
    have hlo : lo 128 (x / 8 % 8) (x % 8) = x := by unfold lo; omega
    by_cases h4 : x % 8 = 4
    · rw [if_pos h4] at h
      by_cases h6 : 6 ≤ (x :: r).length ∧ r.getD 0 0 = 36
      · rw [if_pos h6] at h
        simp only [Value.tuple.injEq, Array.mk.injEq, List.cons.injEq, Value.int.injEq, Value.bool.injEq, true_and, and_true] at h
        obtain ⟨rfl, rfl, rfl, rfl, rfl⟩ := h
        have hl : (((x :: r).drop 2).take 4).length = 4 := by have := h6.1; simp at this ⊢; omega
        have hn := numB_sg _ (isBytes_take (fun y hy => hb y (List.mem_of_mem_drop hy)) 4) hl
        refine ⟨by simp only [regOk, Bool.and_eq_true, regB_iff]; omega, 6, rfl, by omega, h6.1, (fun h => by cases h), fun _ => ⟨hn.2, ?_⟩⟩
        cases r with
        | nil => simp at h6
        | cons y r =>
          have hy : y = 36 := by simpa using h6.2
          rw [memB, hn.1, hlo, sibB, if_pos (by omega), hy]
          rfl
      · rw [if_neg h6] at h; simp [rdNo] at h
    · rw [if_neg h4] at h
      by_cases h5 : 5 ≤ (x :: r).length
      · rw [if_pos h5] at h
        simp only [Value.tuple.injEq, Array.mk.injEq, List.cons.injEq, Value.int.injEq, Value.bool.injEq, true_and, and_true] at h
        obtain ⟨rfl, rfl, rfl, rfl, rfl⟩ := h
        have hl : (((x :: r).drop 1).take 4).length = 4 := by simp at h5 ⊢; omega
        have hn := numB_sg _ (isBytes_take (fun y hy => hb y (List.mem_of_mem_drop hy)) 4) hl
        refine ⟨by simp only [regOk, Bool.and_eq_true, regB_iff]; omega, 5, rfl, by omega, h5, (fun h => by cases h), fun _ => ⟨hn.2, ?_⟩⟩
        rw [memB, hn.1, hlo, sibB, if_neg (by omega)]
        rfl
      · rw [if_neg h5] at h; simp [rdNo] at h
theorem read_own {w : World} {B n : Nat} {v : Value} {xs : List Value} (h : w.ownsRow B 5 1 v n xs) {L : List Int} (hx : xs = L.map (Value.int .u8)) :
    ∃ A c, v = .slice A n c ∧ n ≤ c ∧ Reads w w.heap.size 1 A n (L.map (Value.int .u8)) := by
  subst hx
  obtain ⟨A, c, rfl⟩ := own_shape h
  refine ⟨A, c, rfl, ?_, Reads.of_own h⟩
  rcases h.2 with ⟨h0, rfl⟩ | ⟨g, cap, cur, hv, _, _, hnc, _⟩
  · omega
  · injection hv with _ _ h3
    omega
theorem conv_all {w : World} {B n c : Nat} {A : Option Addr} {l : List Int} (h : Reads w B 1 A n (l.map (Value.int .u8))) (hB : B ≤ w.heap.size) :
    ∃ s, Hid (s = strOfNums l) ∧ ∀ W', Below w.heap.size w W' → (convert 23 9 (.slice A n c)).run Try.prog W' = .ok (.string s) W' :=
  ⟨_, hide rfl, fun W' hW => run_convert_reads W' _ _ 5 Try.underlying23 Try.underlying5 Try.underlying9 _ n c A l (h.below (hW.mono hB))⟩
set_option maxRecDepth 100000 in
set_option maxHeartbeats 4000000 in
theorem back_walk1 (wide : Bool) (r a d v n : Int) (A : Option Addr) (len cap : Nat) (l : List Int) (w : World) (hr : Reads w w.heap.size 1 A len (l.map (Value.int .u8))) (hb : IsBytes l) (hc : len ≤ cap) (h100 : ¬ 100 < len) :
    Calls Try.prog 8 #[.bool wide, .int .i8 r, .int .i8 a, .int .i64 d, .int .i64 v, .int .i64 n, .slice A len cap] w fun e w' => e = .returned (.bool true) ∧ Below w.heap.size w w' := by
  obtain ⟨i0, hi0, hz0, hz1, hz2⟩ := info_parts u8_info
  have HR := hide hr
  have HB := hide hb
  clear hr hb
  go_enter Try.func8, Try.ntmps8
  go_upto_if 59 with (first | (go_at_call 13; refine (rex_all _ _ _ _).mono ?_; rintro e w' ⟨rfl, rfl⟩))
  go_cut [17, 18, 19, 20, 21, 22, 23, 24, 25, 26, 27, 28] (fun _ _ _ _ _ _ _ _ _ _ _ _ wc => Below w.heap.size w wc)
  case first =>
   as_aux_lemma =>
    cases hreg : regOk r a
    · have eE : (rexE r a == 0) = false := by rw [rexE, hreg]; rfl
      clear hreg
      go_wp2_with fail
      go_meet
      case rel => exact Below.refl _ _
    · obtain ⟨hrr, haa⟩ : regB r = true ∧ regB a = true := by simpa [regOk] using hreg
      have hbk : rxOk (rexB wide r a) = true ∧ rxW (rexB wide r a) = wide ∧ rxR (rexB wide r a) = bits .and .i8 r 8 ∧ rxA (rexB wide r a) = bits .and .i8 a 8 ∧
          (decide (0 < rxR (rexB wide r a) + rxA (rexB wide r a))) = needB r a ∧ (0 ≤ rxR (rexB wide r a) ∧ rxR (rexB wide r a) ≤ 8) ∧ (0 ≤ rxA (rexB wide r a) ∧ rxA (rexB wide r a) ≤ 8) ∧ 0 ≤ rexB wide r a ∧ rexB wide r a < 256 := by
        obtain ⟨k, hk⟩ := fin16 (regB_iff.1 hrr).1 (regB_iff.1 hrr).2
        obtain ⟨j, hj⟩ := fin16 (regB_iff.1 haa).1 (regB_iff.1 haa).2
        rw [hk, hj]
        exact back_bits wide k j
      obtain ⟨b1, b2, b3, b4, b5, b6, b7, b8⟩ := hbk
      have hr7 := i8_and7 r (regB_iff.1 hrr).1 (regB_iff.1 hrr).2
      have ha7 := i8_and7 a (regB_iff.1 haa).1 (regB_iff.1 haa).2
      have eV : rexV wide r a = rexB wide r a := by rw [rexV, hreg]; rfl
      have eE : (rexE r a == 0) = true := by rw [rexE, hreg]; rfl
      rw [← eV] at b1 b2 b3 b4 b5 b6 b7 b8
      have E3 := hide (regE_of hreg)
      have E4 := hide (regK_of hreg)
      have E5 : Hid (regL r a = [lo 192 r a]) := hide (by simp [regL, hreg])
      clear eV hrr haa hreg
      go_wp2_with fail
      refine (readrex_any _ _ b8.1 b8.2).mono ?_
      rintro e w' ⟨rfl, rfl⟩
      generalize rxOk (rexV wide r a) = q1, rxW (rexV wide r a) = q2, rxR (rexV wide r a) = q3, rxA (rexV wide r a) = q4 at *
      obtain rfl := b1
      obtain rfl : q2 = wide := b2
      obtain rfl := b3
      obtain rfl := b4
      have hN : (needB r a != decide (0 < bits .and .i8 r 8 + bits .and .i8 a 8)) = false := by rw [b5]; simp
      have hN' : (!needB r a == decide (0 < bits .and .i8 r 8 + bits .and .i8 a 8)) = false := by rw [b5]; simp
      clear b5
      go_wp2_with (first | (go_at_call 19; refine (needs_any _ _ _).mono ?_; rintro e w' ⟨rfl, rfl⟩))
      refine (regs_all _ _ _).mono ?_
      rintro e w1 ⟨A1, c1, rfl, hc1, hr1, hb1⟩
      rw [E3.out, E4.out]
      rw [E4.out, E5.out] at hr1
      go_wp2_with (first | (at_builtin; refine wpList_append_any _ rfl (.tmp 103) (.tmp 104) 23 rfl w.heap.size 5 i0 _ 1 1 Try.underlying23 hi0 hz0 hz1 hz2 rfl (by omega) _ 0 [] rfl (own_new w1 w.heap.size 5 [] 0 hb1.size rfl (by simp [maxLen])) _ A1 1 c1 _ rfl (hr1.alloc (Nat.le_refl _) _) u8_one (by simp only [maxLen]; omega) (by omega) (le_alloc _ hb1.size) ?_; intro v2 w2 ho2 hg2 hat2; have hb2 : Below w.heap.size w w2 := (hb1.alloc hb1.size _).grown hg2 (le_alloc _ hb1.size) (fun g hgg => Nat.le_trans hb1.size (Nat.le_of_eq (Option.some.inj hgg))); have hr2 := HR.out.below hb2; clear hg2 hat2) | (at_builtin; refine wpList_append_any _ rfl (.tmp 105) (.tmp 106) 23 rfl w.heap.size 5 i0 _ 1 1 Try.underlying23 hi0 hz0 hz1 hz2 rfl (by omega) _ (0 + 1) _ rfl ho2 _ A len cap _ rfl hr2 u8_one (by simp only [maxLen]; omega) (by omega) hb2.size ?_; intro v3 w3 ho3 hg3 hat3; have hb3 : Below w.heap.size w w3 := hb2.grown hg3 hb2.size (fun g hgg => (ho2.lt g hgg).1); clear hg3 hat3))
      obtain ⟨A3, c3, hv3, hc3, hr3⟩ := read_own ho3 (L := [lo 192 r a] ++ l) (by simp)
      rw [hv3]
      clear ho3 hv3 ho2 hr2 hb2
      go_wp2_with fail
      refine (read_any ([lo 192 r a] ++ l) _ _ _ _ _ hr3 (isB_app (isB_lo _ _ _ (by omega)) HB.out) hc3).mono ?_
      rintro e w' ⟨rfl, k3, rfl⟩
      rw [rdV_regs]
      go_wp2_with fail
      go_meet
      case rel => exact below_drewN hb3 k3
  case rest =>
    have hbc := hcut
    clear hcut
    go_upto_if 150 with fail
    refine (mem_all _ _ _ _).mono ?_
    rintro e w1 ⟨A1, c1, rfl, hc1, hr1, hb1⟩
    replace hb1 := hbc.trans (hb1.mono hbc.size)
    clear hbc
    go_upto_if 150 with fail
    go_cut [31, 32, 33, 34, 35, 36] (fun _ _ _ _ _ _ wc => Below w.heap.size w wc)
    case first =>
     as_aux_lemma =>
      cases hm : memOk r a d
      · have eE : (memE r a d == 0) = false := by rw [memE, hm]; rfl
        clear hm
        go_wp2_with fail
        go_meet
        case rel => exact hb1
      · obtain ⟨hnum, hrr, haa⟩ := memOk_t hm
        have hreg : regOk r a = true := by simp [regOk, hrr, haa]
        have hr7 := i8_and7 r (regB_iff.1 hrr).1 (regB_iff.1 hrr).2
        have ha7 := i8_and7 a (regB_iff.1 haa).1 (regB_iff.1 haa).2
        have eE : (memE r a d == 0) = true := by rw [memE, hm]; rfl
        have eK : memK r a d = memN a := by rw [memK, hm]; rfl
        have eL : memL r a d = memB r a d := by rw [memL, hm]; rfl
        have eX : (rexE r a != 0) = false := by rw [rexE, hreg]; rfl
        have EK := hide eK
        rw [eL] at hr1
        have hk6 : memK r a d ≤ 6 := by rw [eK]; unfold memN; split <;> omega
        have HN := hide hnum
        clear eK eL hrr haa hreg hm hnum hc1
        go_wp2_with (first | (at_builtin; refine wpList_append_any _ rfl (.tmp 152) (.tmp 153) 23 rfl w.heap.size 5 i0 _ 1 1 Try.underlying23 hi0 hz0 hz1 hz2 rfl (by omega) _ 0 [] rfl (own_new w1 w.heap.size 5 [] 0 hb1.size rfl (by simp [maxLen])) _ A1 (memK r a d) c1 _ rfl (hr1.alloc (Nat.le_refl _) _) u8_one (by simp only [maxLen]; omega) (by omega) (le_alloc _ hb1.size) ?_; intro v2 w2 ho2 hg2 hat2; have hb2 : Below w.heap.size w w2 := (hb1.alloc hb1.size _).grown hg2 (le_alloc _ hb1.size) (fun g hgg => Nat.le_trans hb1.size (Nat.le_of_eq (Option.some.inj hgg))); have hr2 := HR.out.below hb2; clear hg2 hat2) | (at_builtin; refine wpList_append_any _ rfl (.tmp 154) (.tmp 155) 23 rfl w.heap.size 5 i0 _ 1 1 Try.underlying23 hi0 hz0 hz1 hz2 rfl (by omega) _ (0 + memK r a d) _ rfl ho2 _ A len cap _ rfl hr2 u8_one (by simp only [maxLen]; omega) (by omega) hb2.size ?_; intro v3 w3 ho3 hg3 hat3; have hb3 : Below w.heap.size w w3 := hb2.grown hg3 hb2.size (fun g hgg => (ho2.lt g hgg).1); clear hg3 hat3))
        obtain ⟨A3, c3, hv3, hc3, hr3⟩ := read_own ho3 (L := memB r a d ++ l) (by simp)
        rw [hv3]
        clear ho3 hv3 ho2 hr2 hb2
        go_wp2_with fail
        refine (read_any (memB r a d ++ l) _ _ _ _ _ hr3 (isB_app (isB_memB _ _ _) HB.out) hc3).mono ?_
        rintro e w' ⟨rfl, k3, rfl⟩
        rw [rdV_mem _ _ _ _ HN.out, ← EK.out]
        go_wp2_with fail
        go_meet
        case rel => exact below_drewN hb3 k3
    case rest =>
      have hbc := hcut
      clear hcut hb1 hr1 hc1
      go_wp2_with fail
      refine (num_all _ _ _).mono ?_
      rintro e w2 ⟨A2, c2, rfl, hc2, hr2, hb2⟩
      replace hb2 := hbc.trans (hb2.mono hbc.size)
      clear hbc
      go_upto_region 18 with fail
      go_cut [216] (fun s wc => s = .bool false ∧ Below w.heap.size w wc)
      case first =>
       as_aux_lemma =>
        cases hn : numOk v n
        · have eE : (numE v n == 0) = false := by rw [numE, hn]; rfl
          clear hn
          go_wp2_with fail
          go_meet
          case rel => exact ⟨rfl, hb2⟩
        · have eE : (numE v n == 0) = true := by rw [numE, hn]; rfl
          have eL : numL v n = numB v n.toNat := by rw [numL, hn]; rfl
          have eK : ((numK v n : Int) != n) = false := by
            rw [numK, hn]
            simp [numOk] at hn
            simp
            omega
          have h8 : n.toNat ≤ 8 := by simp [numOk] at hn; omega
          have hs : sg ((numB v n.toNat).take 8) = v := by rw [List.take_of_length_le (by simp [numB]; omega), sg_numB hn]
          rw [eL] at hr2
          have HS := hide hs
          clear hs eL hn h8
          go_wp2_with fail
          refine (signed_any _ _ _ _ _ _ hr2 (isB_numB _ _) hc2).mono ?_
          rintro e w' ⟨rfl, rfl⟩
          rw [HS.out]
          go_wp2_with fail
          go_meet
          case rel => exact ⟨rfl, hb2⟩
      case rest =>
        obtain ⟨rfl, hbc⟩ := hcut
        clear hb2 hr2 hc2
        have hr3 := HR.out.below hbc
        go_wp2_with fail
        refine (read_any l _ _ _ _ _ hr3 HB.out hc).mono ?_
        rintro e w' ⟨rfl, k3, rfl⟩
        obtain ⟨a1, a2, a3, a4, a5, a6, hv⟩ := rdV_shape l
        have HV := hide hv
        rw [hv]
        clear hv
        by_cases h6 : a6 = 0
        · subst h6
          obtain ⟨hreg, k, rfl, hk0, hkl, hno, hyes⟩ := rdV_back l HB.out _ _ _ _ _ HV.out
          have e1 : regE a1 a2 = 0 := by rw [regE, hreg]; rfl
          have e2 : regL a1 a2 = [lo 192 a1 a2] := by rw [regL, hreg]; rfl
          have e3 : regK a1 a2 = 1 := by rw [regK, hreg]; rfl
          have E1 := hide (And.intro e1 (And.intro e2 e3))
          have HY := hide hyes
          have HNO := hide hno
          have hk0' : (0 : Int) < k := by omega
          have hln : l.length = len := by have := HR.out.1; simpa using this
          have hkl' : (k : Int) ≤ len := by omega
          have hkc : (k : Int) ≤ cap := by omega
          clear e1 e2 e3 hno hyes hln hkl
          cases a4
          · as_aux_lemma =>
            go_wp2_with fail
            refine (regs_all _ _ _).mono ?_
            rintro e w4 ⟨A4, c4, rfl, hc4, hr4, hb4⟩
            rw [E1.out.1]
            rw [E1.out.2.1] at hr4
            have hbd : Below w.heap.size w w4 := (below_drewN hbc k3).trans (hb4.mono hbc.size)
            clear hb4 hc4
            have hrb := Reads.take_ (HR.out.below hbd) (k := k) (by omega)
            obtain ⟨s, HS, cv4⟩ := conv_all hr4 (Nat.le_refl _) (c := c4)
            obtain ⟨s', HS', cvb⟩ := conv_all hrb hbd.size (c := cap)
            have es : (s.toList == s'.toList) = true := by rw [HS.out, HS'.out, HNO.out trivial]; simp
            have cv40 := cv4 w4.drew (Below.refl _ _).drew
            have cvb0 := cvb w4.drew (Below.refl _ _).drew
            clear hrb HS HS' cv4 cvb hbc
            go_wp2_with fail
            go_still_tail 22, (by kernel_rfl)
            change wpList _ _ _ _ _ w4.drew
            have hbd5 := hbd.drew
            clear hbd cv40 cvb0
            generalize w4.drew = w5 at *
            go_wp2_with (go_at_call 11; refine (wakes_any _).mono ?_; rintro e w7 ⟨rfl, hb7⟩)
            go_ret
            exact ⟨rfl, hbd5.trans (hb7.mono hbd5.size)⟩
          · as_aux_lemma =>
            have hm := HY.out rfl
            have hmok : memOk a1 a2 a3 = true := by simp only [memOk, hm.1, Bool.true_and]; exact hreg
            have f1 : memE a1 a2 a3 = 0 := by rw [memE, hmok]; rfl
            have f2 : memL a1 a2 a3 = memB a1 a2 a3 := by rw [memL, hmok]; rfl
            have F1 := hide (And.intro f1 f2)
            have HM2 := hide hm.2
            clear f1 f2 hmok hm
            go_wp2_with fail
            refine (regs_all _ _ _).mono ?_
            rintro e w4 ⟨A4, c4, rfl, hc4, hr4, hb4⟩
            rw [E1.out.1]
            have hbd4 : Below w.heap.size w w4 := (below_drewN hbc k3).trans (hb4.mono hbc.size)
            clear hb4 hc4 hr4
            go_wp2_with fail
            refine (mem_all _ _ _ _).mono ?_
            rintro e w6 ⟨A6, c6, rfl, hc6, hr6, hb6⟩
            rw [F1.out.1]
            rw [F1.out.2] at hr6
            have hbd : Below w.heap.size w w6 := hbd4.trans (hb6.mono hbd4.size)
            clear hb6 hc6 hbd4
            have hrb := Reads.take_ (HR.out.below hbd) (k := k) (by omega)
            obtain ⟨s, HS, cv4⟩ := conv_all hr6 (Nat.le_refl _) (c := c6)
            obtain ⟨s', HS', cvb⟩ := conv_all hrb hbd.size (c := cap)
            have es : (s.toList == s'.toList) = true := by rw [HS.out, HS'.out, HM2.out]; simp
            have cv40 := cv4 w6.drew (Below.refl _ _).drew
            have cvb0 := cvb w6.drew (Below.refl _ _).drew
            clear hrb HS HS' cv4 cvb hbc
            go_wp2_with fail
            go_still_tail 22, (by kernel_rfl)
            change wpList _ _ _ _ _ w6.drew
            have hbd5 := hbd.drew
            clear hbd cv40 cvb0
            generalize w6.drew = w5 at *
            go_wp2_with (go_at_call 11; refine (wakes_any _).mono ?_; rintro e w7 ⟨rfl, hb7⟩)
            go_ret
            exact ⟨rfl, hbd5.trans (hb7.mono hbd5.size)⟩
        · go_wp2_with (first | (go_at_call 11; refine (wakes_any _).mono ?_; rintro e w7 ⟨rfl, hb7⟩))
          go_ret
          exact ⟨rfl, (below_drewN hbc k3).trans (hb7.mono hbc.size)⟩
set_option maxRecDepth 100000 in
set_option maxHeartbeats 400000 in
theorem back_walk0 (wide : Bool) (r a d v n : Int) (A : Option Addr) (len cap : Nat) (w : World) (h100 : 100 < len) :
    Calls Try.prog 8 #[.bool wide, .int .i8 r, .int .i8 a, .int .i64 d, .int .i64 v, .int .i64 n, .slice A len cap] w fun e w' => e = .returned (.bool true) ∧ Below w.heap.size w w' := by
  go_enter Try.func8, Try.ntmps8
  go_wp2_with (go_at_call 11; refine (wakes_any _).mono ?_; rintro e w7 ⟨rfl, hb7⟩)
  go_ret
  exact ⟨rfl, hb7⟩
theorem back_walk (wide : Bool) (r a d v n : Int) (A : Option Addr) (len cap : Nat) (l : List Int) (w : World) (hr : Reads w w.heap.size 1 A len (l.map (Value.int .u8))) (hb : IsBytes l) (hc : len ≤ cap) :
    Calls Try.prog 8 #[.bool wide, .int .i8 r, .int .i8 a, .int .i64 d, .int .i64 v, .int .i64 n, .slice A len cap] w fun e w' => e = .returned (.bool true) ∧ Below w.heap.size w w' := by
  by_cases h100 : 100 < len
  · exact back_walk0 wide r a d v n A len cap w h100
  · exact back_walk1 wide r a d v n A len cap l w hr hb hc h100
end Go.Proofs.Ytladeiighbbioaa
