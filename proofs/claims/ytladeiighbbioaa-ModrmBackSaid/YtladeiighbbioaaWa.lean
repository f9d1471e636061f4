/-
  Contracts of the small functions of modrm and latheref12 that make no memory: what each answers. Conditions: those written in each statement.
-/
import Derived.Test.YtladeiighbbioaaProg
import Derived.Test.YtladeiighbbioaaKit
namespace Go.Proofs.Ytladeiighbbioaa
open Go.RowKit
/-- Is it a register's number? -/
def regB (r : Int) : Bool := decide (0 ≤ r) && decide (r < 16)
theorem regB_iff {r : Int} : regB r = true ↔ 0 ≤ r ∧ r < 16 := by simp [regB]
theorem regB_no {r : Int} (h : regB r = false) : ¬ (0 ≤ r ∧ r < 16) := by rw [← regB_iff, h]; simp
set_option maxHeartbeats 400000 in
theorem register_any (r : Int) (w : World) : Calls Try.prog 26 #[.int .i8 r] w fun e w' => e = .returned (.bool (regB r)) ∧ w = w' := by
  by_cases h0 : 0 ≤ r
  all_goals
    go_enter Try.func26, Try.ntmps26
    go_wp2
    go_ret
    exact ⟨by simp [regB, h0]; try omega, rfl⟩
set_option maxHeartbeats 400000 in
theorem rregister_any (r : Int) (w : World) : Calls Try.prog 30 #[.int .i8 r] w fun e w' => e = .returned (.bool (regB r)) ∧ w = w' := by
  by_cases h0 : 0 ≤ r
  all_goals
    go_enter Try.func30, Try.ntmps30
    go_wp2
    go_ret
    exact ⟨by simp [regB, h0]; try omega, rfl⟩
/-- A byte that names two registers, behind a beginning. -/
def lo (f r a : Int) : Int := f + r % 8 * 8 + a % 8
theorem lo_bits : ∀ r a : Fin 16, bits .or .u8 (bits .or .u8 128 ((r.val : Int) % 8 * 8)) ((a.val : Int) % 8) = lo 128 r.val a.val ∧ bits .or .u8 (bits .or .u8 192 ((r.val : Int) % 8 * 8)) ((a.val : Int) % 8) = lo 192 r.val a.val := by decide +kernel
theorem fin16 {r : Int} (h0 : 0 ≤ r) (h1 : r < 16) : ∃ k : Fin 16, r = (k.val : Int) := ⟨⟨r.toNat, by omega⟩, by simp; omega⟩
set_option maxHeartbeats 400000 in
theorem low_any (f r a : Int) (w : World) (hf : f = 128 ∨ f = 192) (h0 : 0 ≤ r) (h1 : r < 16) (h2 : 0 ≤ a) (h3 : a < 16) :
    Calls Try.prog 28 #[.int .u8 f, .int .i8 r, .int .i8 a] w fun e w' => e = .returned (.int .u8 (lo f r a)) ∧ w = w' := by
  have hl : bits .or .u8 (bits .or .u8 f (r % 8 * 8)) (a % 8) = lo f r a := by
    obtain ⟨k, rfl⟩ := fin16 h0 h1
    obtain ⟨j, rfl⟩ := fin16 h2 h3
    rcases hf with rfl | rfl
    · exact (lo_bits k j).1
    · exact (lo_bits k j).2
  rw [← hl]
  clear hl hf
  go_enter Try.func28, Try.ntmps28
  go_wp2
  go_ret
  exact ⟨rfl, rfl⟩

def bit (b : Bool) (n : Int) : Int := if b then n else 0
/-- The REX byte. -/
def rexB (wide : Bool) (r a : Int) : Int := 64 + bit wide 8 + r / 8 * 4 + a / 8
theorem rex_bits : ∀ r a : Fin 16, bits .or .u8 (bits .or .u8 64 (bits .and .u8 ((r.val : Int) % 256 / 8) 1 * 4 % 256)) (bits .and .u8 ((a.val : Int) % 256 / 8) 1 % 256) = rexB false r.val a.val ∧
    bits .or .u8 (bits .or .u8 (bits .or .u8 64 (bits .and .u8 ((r.val : Int) % 256 / 8) 1 * 4 % 256)) (bits .and .u8 ((a.val : Int) % 256 / 8) 1 % 256)) 8 = rexB true r.val a.val := by decide +kernel
set_option maxHeartbeats 400000 in
theorem high_any (r a : Int) (w : World) (h0 : 0 ≤ a) (h1 : a ≤ 8) :
    Calls Try.prog 29 #[.int .i8 r, .int .u64 a] w fun e w' => e = .returned (.int .u8 (bits .and .u8 (r % 256 / 8) 1 * 2 ^ a.toNat % 256)) ∧ w = w' := by
  go_enter Try.func29, Try.ntmps29
  go_wp2
  go_ret
  exact ⟨rfl, rfl⟩
theorem ret_ii {k q : IntKind} {a b x y : Int} (h : a = b) (g : x = y) : Ending.returned (.tuple #[.int k a, .int q x]) = .returned (.tuple #[.int k b, .int q y]) := by rw [h, g]
set_option maxHeartbeats 400000 in
theorem rex_yes (wide : Bool) (r a : Int) (w : World) (hr : regB r = true) (ha : regB a = true) :
    Calls Try.prog 13 #[.bool wide, .int .i8 r, .int .i8 a] w fun e w' => e = .returned (.tuple #[.int .u8 (rexB wide r a), .int .i64 0]) ∧ w = w' := by
  have hb := fun (r a : Int) (h0 : 0 ≤ r) (h1 : r < 16) (h2 : 0 ≤ a) (h3 : a < 16) => (fin16 h0 h1).elim fun k hk => (fin16 h2 h3).elim fun j hj => by
    have := rex_bits k j
    rw [← hk, ← hj] at this
    exact this
  have HB := hide (hb r a (regB_iff.1 hr).1 (regB_iff.1 hr).2 (regB_iff.1 ha).1 (regB_iff.1 ha).2)
  clear hb
  cases wide
  all_goals
    go_enter Try.func13, Try.ntmps13
    go_wp2_with (first | (go_at_call 26; refine (register_any _ _).mono ?_; rintro e w' ⟨rfl, rfl⟩) | (go_at_call 29; refine (high_any _ _ _ (by omega) (by omega)).mono ?_; rintro e w' ⟨rfl, rfl⟩))
    go_ret2
  · exact ⟨ret_ii HB.out.1 rfl, rfl⟩
  · exact ⟨ret_ii HB.out.2 rfl, rfl⟩
set_option maxHeartbeats 400000 in
theorem rex_no (wide : Bool) (r a : Int) (w : World) (h : (regB r && regB a) = false) :
    Calls Try.prog 13 #[.bool wide, .int .i8 r, .int .i8 a] w fun e w' => e = .returned (.tuple #[.int .u8 0, .int .i64 2]) ∧ w = w' := by
  cases hr : regB r
  · clear h
    go_enter Try.func13, Try.ntmps13
    go_wp2_with (first | (go_at_call 26; refine (register_any _ _).mono ?_; rintro e w' ⟨rfl, rfl⟩))
    go_ret2
    exact ⟨rfl, rfl⟩
  · have ha : regB a = false := by simpa [hr] using h
    clear h
    go_enter Try.func13, Try.ntmps13
    go_wp2_with (first | (go_at_call 26; refine (register_any _ _).mono ?_; rintro e w' ⟨rfl, rfl⟩))
    go_ret2
    exact ⟨rfl, rfl⟩
set_option maxHeartbeats 400000 in
theorem rrex_yes (wide : Bool) (r a : Int) (w : World) (hr : regB r = true) (ha : regB a = true) :
    Calls Try.prog 14 #[.bool wide, .int .i8 r, .int .i8 a] w fun e w' => e = .returned (.tuple #[.int .u8 (rexB wide r a), .int .i64 0]) ∧ w = w' := by
  have h0 := (regB_iff.1 hr)
  have h1 := (regB_iff.1 ha)
  cases wide
  all_goals
    by_cases c1 : 7 < r
    all_goals
      by_cases c2 : 7 < a
      all_goals
        go_enter Try.func14, Try.ntmps14
        go_wp2_with (first | (go_at_call 30; refine (rregister_any _ _).mono ?_; rintro e w' ⟨rfl, rfl⟩))
        go_ret2
        exact ⟨ret_ii (by simp [rexB, bit]; omega) rfl, rfl⟩
set_option maxHeartbeats 400000 in
theorem rrex_no (wide : Bool) (r a : Int) (w : World) (h : (regB r && regB a) = false) :
    Calls Try.prog 14 #[.bool wide, .int .i8 r, .int .i8 a] w fun e w' => e = .returned (.tuple #[.int .u8 0, .int .i64 2]) ∧ w = w' := by
  cases hr : regB r
  · clear h
    go_enter Try.func14, Try.ntmps14
    go_wp2_with (first | (go_at_call 30; refine (rregister_any _ _).mono ?_; rintro e w' ⟨rfl, rfl⟩))
    go_ret2
    exact ⟨rfl, rfl⟩
  · have ha : regB a = false := by simpa [hr] using h
    clear h
    go_enter Try.func14, Try.ntmps14
    go_wp2_with (first | (go_at_call 30; refine (rregister_any _ _).mono ?_; rintro e w' ⟨rfl, rfl⟩))
    go_ret2
    exact ⟨rfl, rfl⟩
/-- Is a REX byte needed? -/
def needB (r a : Int) : Bool := regB r && (regB a && (decide (7 < r) || decide (7 < a)))
theorem need_bits : ∀ r a : Fin 16, (bits .and .i8 (bits .or .i8 (r.val : Int) (a.val : Int)) 8 == 0) = !(decide (7 < (r.val : Int)) || decide (7 < (a.val : Int))) := by decide +kernel
set_option maxHeartbeats 400000 in
theorem needs_any (r a : Int) (w : World) :
    Calls Try.prog 19 #[.int .i8 r, .int .i8 a] w fun e w' => e = .returned (.bool (needB r a)) ∧ w = w' := by
  cases hr : regB r
  · go_enter Try.func19, Try.ntmps19
    go_wp2_with (first | (go_at_call 26; refine (register_any _ _).mono ?_; rintro e w' ⟨rfl, rfl⟩))
    go_ret
    exact ⟨by simp [needB, hr], rfl⟩
  · cases ha : regB a
    · go_enter Try.func19, Try.ntmps19
      go_wp2_with (first | (go_at_call 26; refine (register_any _ _).mono ?_; rintro e w' ⟨rfl, rfl⟩))
      go_ret
      exact ⟨by simp [needB, ha], rfl⟩
    · have hb : (bits .and .i8 (bits .or .i8 r a) 8 == 0) = !(decide (7 < r) || decide (7 < a)) := by
        obtain ⟨k, hk⟩ := fin16 (regB_iff.1 hr).1 (regB_iff.1 hr).2
        obtain ⟨j, hj⟩ := fin16 (regB_iff.1 ha).1 (regB_iff.1 ha).2
        rw [hk, hj]
        exact need_bits k j
      have HB := hide hb
      clear hb
      go_enter Try.func19, Try.ntmps19
      go_wp2_with (first | (go_at_call 26; refine (register_any _ _).mono ?_; rintro e w' ⟨rfl, rfl⟩))
      go_ret
      exact ⟨by simp [needB, hr, ha, bne, HB.out], rfl⟩
set_option maxHeartbeats 400000 in
theorem rneeds_any (r a : Int) (w : World) :
    Calls Try.prog 20 #[.int .i8 r, .int .i8 a] w fun e w' => e = .returned (.bool (needB r a)) ∧ w = w' := by
  cases hr : regB r
  · go_enter Try.func20, Try.ntmps20
    go_wp2_with (first | (go_at_call 30; refine (rregister_any _ _).mono ?_; rintro e w' ⟨rfl, rfl⟩))
    go_ret
    exact ⟨by simp [needB, hr], rfl⟩
  · cases ha : regB a
    · go_enter Try.func20, Try.ntmps20
      go_wp2_with (first | (go_at_call 30; refine (rregister_any _ _).mono ?_; rintro e w' ⟨rfl, rfl⟩))
      go_ret
      exact ⟨by simp [needB, ha], rfl⟩
    · by_cases c1 : 7 < r
      all_goals
        go_enter Try.func20, Try.ntmps20
        go_wp2_with (first | (go_at_call 30; refine (rregister_any _ _).mono ?_; rintro e w' ⟨rfl, rfl⟩))
        go_ret
        exact ⟨by simp [needB, hr, ha, c1], rfl⟩
/-- Is a byte a REX; what it says. -/
def rxOk (b : Int) : Bool := b / 16 == 4 && b / 2 % 2 == 0
def rxW (b : Int) : Bool := rxOk b && b / 8 % 2 == 1
def rxR (b : Int) : Int := if rxOk b then b / 4 % 2 * 8 else 0
def rxA (b : Int) : Int := if rxOk b then b % 2 * 8 else 0
theorem fin256 {r : Int} (h0 : 0 ≤ r) (h1 : r < 256) : ∃ k : Fin 256, r = (k.val : Int) := ⟨⟨r.toNat, by omega⟩, by simp; omega⟩
theorem rx_bits : ∀ b : Fin 256, (bits .and .u8 (b.val : Int) 2 != 0) = !((b.val : Int) / 2 % 2 == 0) ∧ (bits .and .u8 (b.val : Int) 8 != 0) = ((b.val : Int) / 8 % 2 == 1) ∧
    (bits .and .u8 (b.val : Int) 4 != 0) = ((b.val : Int) / 4 % 2 == 1) ∧ (bits .and .u8 (b.val : Int) 1 != 0) = ((b.val : Int) % 2 == 1) ∧ ((b.val : Int) / 16 = 4 → IntKind.i8.wrap (bits .and .u8 ((b.val : Int) * 2) 8) = (b.val : Int) / 4 % 2 * 8) ∧
    IntKind.i8.wrap (bits .and .u8 ((b.val : Int) * 8 % 256) 8) = (b.val : Int) % 2 * 8 := by decide +kernel
theorem ret_bii {k q : IntKind} {d d' c c' : Bool} {a b x y : Int} (e : c = c') (h : a = b) (g : x = y) (f : d = d') : Ending.returned (.tuple #[.bool c, .int k a, .int q x, .bool d]) = .returned (.tuple #[.bool c', .int k b, .int q y, .bool d']) := by rw [h, g, e, f]
set_option maxHeartbeats 400000 in
theorem readrex_any (b : Int) (w : World) (h0 : 0 ≤ b) (h1 : b < 256) :
    Calls Try.prog 12 #[.int .u8 b] w fun e w' => e = .returned (.tuple #[.bool (rxW b), .int .i8 (rxR b), .int .i8 (rxA b), .bool (rxOk b)]) ∧ w = w' := by
  have hb : (bits .and .u8 b 2 != 0) = !(b / 2 % 2 == 0) ∧ (bits .and .u8 b 8 != 0) = (b / 8 % 2 == 1) ∧ (bits .and .u8 b 4 != 0) = (b / 4 % 2 == 1) ∧ (bits .and .u8 b 1 != 0) = (b % 2 == 1) ∧ (b / 16 = 4 → IntKind.i8.wrap (bits .and .u8 (b * 2) 8) = b / 4 % 2 * 8) ∧
    IntKind.i8.wrap (bits .and .u8 (b * 8 % 256) 8) = b % 2 * 8 := by
    obtain ⟨k, rfl⟩ := fin256 h0 h1
    exact rx_bits k
  by_cases c1 : b / 16 = 4
  · cases c2 : (bits .and .u8 b 2 != 0)
    · have hok : rxOk b = true := by have := hb.1; rw [c2] at this; simp only [rxOk, c1]; simpa using this.symm
      have HB := hide hb
      clear hb
      have HK := hide hok
      clear hok
      go_enter Try.func12, Try.ntmps12
      go_wp2
      refine bodyPost_ret (results_tmp4 rfl _ _ _) rfl ?_
      exact ⟨ret_bii (by rw [HB.out.2.1, rxW, HK.out]; rfl) (by rw [rxR, HK.out]; simpa using HB.out.2.2.2.2.1 c1) (by rw [rxA, HK.out]; simpa using HB.out.2.2.2.2.2) HK.out.symm, rfl⟩
    · have hok : rxOk b = false := by have := hb.1; rw [c2] at this; simp only [rxOk, c1]; simpa using this.symm
      have HK := hide hok
      clear hok hb
      go_enter Try.func12, Try.ntmps12
      go_wp2
      refine bodyPost_ret (results_tmp4 rfl _ _ _) rfl ?_
      exact ⟨ret_bii (by rw [rxW, HK.out]; rfl) (by rw [rxR, HK.out]; rfl) (by rw [rxA, HK.out]; rfl) HK.out.symm, rfl⟩
  · have hok : rxOk b = false := by simp [rxOk, c1]
    have HK := hide hok
    clear hok hb
    go_enter Try.func12, Try.ntmps12
    go_wp2
    refine bodyPost_ret (results_tmp4 rfl _ _ _) rfl ?_
    exact ⟨ret_bii (by rw [rxW, HK.out]; rfl) (by rw [rxR, HK.out]; rfl) (by rw [rxA, HK.out]; rfl) HK.out.symm, rfl⟩
set_option maxHeartbeats 400000 in
theorem rreadrex_any (b : Int) (w : World) (h0 : 0 ≤ b) (h1 : b < 256) :
    Calls Try.prog 21 #[.int .u8 b] w fun e w' => e = .returned (.tuple #[.bool (rxW b), .int .i8 (rxR b), .int .i8 (rxA b), .bool (rxOk b)]) ∧ w = w' := by
  have hb : (bits .and .u8 b 2 != 0) = !(b / 2 % 2 == 0) ∧ (bits .and .u8 b 8 != 0) = (b / 8 % 2 == 1) ∧ (bits .and .u8 b 4 != 0) = (b / 4 % 2 == 1) ∧ (bits .and .u8 b 1 != 0) = (b % 2 == 1) ∧ (b / 16 = 4 → IntKind.i8.wrap (bits .and .u8 (b * 2) 8) = b / 4 % 2 * 8) ∧
    IntKind.i8.wrap (bits .and .u8 (b * 8 % 256) 8) = b % 2 * 8 := by
    obtain ⟨k, rfl⟩ := fin256 h0 h1
    exact rx_bits k
  by_cases c1 : 64 ≤ b
  · by_cases c0 : 79 < b
    · have hok : rxOk b = false := by have : b / 16 ≠ 4 := by omega
                                      simp [rxOk, this]
      have HK := hide hok
      clear hok hb
      go_enter Try.func21, Try.ntmps21
      go_wp2
      refine bodyPost_ret (results_tmp4 rfl _ _ _) rfl ?_
      exact ⟨ret_bii (by rw [rxW, HK.out]; rfl) (by rw [rxR, HK.out]; rfl) (by rw [rxA, HK.out]; rfl) HK.out.symm, rfl⟩
    · have c16 : b / 16 = 4 := by omega
      cases c2 : (bits .and .u8 b 2 != 0)
      · have hok : rxOk b = true := by have := hb.1; rw [c2] at this; simp only [rxOk, c16]; simpa using this.symm
        have HB := hide hb
        clear hb
        have HK := hide hok
        clear hok c16
        cases c4 : (bits .and .u8 b 4 != 0)
        all_goals
          cases c5 : (bits .and .u8 b 1 != 0)
          all_goals
            have HC4 := hide c4
            have HC5 := hide c5
            go_enter Try.func21, Try.ntmps21
            go_wp2
            refine bodyPost_ret (results_tmp4 rfl _ _ _) rfl ?_
            exact ⟨ret_bii (by rw [HB.out.2.1, rxW, HK.out]; rfl) (by rw [rxR, HK.out]; have h1 := HB.out.2.2.1; rw [HC4.out] at h1; simp at h1; simp; omega) (by rw [rxA, HK.out]; have h1 := HB.out.2.2.2.1; rw [HC5.out] at h1; simp at h1; simp; omega) HK.out.symm, rfl⟩
      · have hok : rxOk b = false := by have := hb.1; rw [c2] at this; simp only [rxOk, c16]; simpa using this.symm
        have HK := hide hok
        clear hok hb
        go_enter Try.func21, Try.ntmps21
        go_wp2
        refine bodyPost_ret (results_tmp4 rfl _ _ _) rfl ?_
        exact ⟨ret_bii (by rw [rxW, HK.out]; rfl) (by rw [rxR, HK.out]; rfl) (by rw [rxA, HK.out]; rfl) HK.out.symm, rfl⟩
  · have hok : rxOk b = false := by have : b / 16 ≠ 4 := by omega
                                    simp [rxOk, this]
    have HK := hide hok
    clear hok hb
    go_enter Try.func21, Try.ntmps21
    go_wp2
    refine bodyPost_ret (results_tmp4 rfl _ _ _) rfl ?_
    exact ⟨ret_bii (by rw [rxW, HK.out]; rfl) (by rw [rxR, HK.out]; rfl) (by rw [rxA, HK.out]; rfl) HK.out.symm, rfl⟩
end Go.Proofs.Ytladeiighbbioaa
