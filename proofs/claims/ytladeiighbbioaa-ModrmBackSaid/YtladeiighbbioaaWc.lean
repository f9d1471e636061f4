/-
  Contracts of the functions of modrm and latheref12 that read numbers out of bytes. Conditions: those written in each statement.
-/
import Derived.Test.YtladeiighbbioaaWb
namespace Go.Proofs.Ytladeiighbbioaa
open Go.RowKit
/-- A number's value, with its sign, out of its bytes. -/
def sg : List Int → Int
  | [] => 0
  | [x] => if x < 128 then x else x - 256
  | x :: y :: r => x + 256 * sg (y :: r)
theorem sg_cons (x : Int) (l : List Int) (h : l ≠ []) : sg (x :: l) = x + 256 * sg l := by
  cases l with
  | nil => exact absurd rfl h
  | cons y r => rfl
theorem sg_bd : ∀ (l : List Int), IsBytes l → l ≠ [] → -(2 ^ (8 * l.length) : Int) ≤ 2 * sg l ∧ 2 * sg l + 2 ≤ 2 ^ (8 * l.length)
  | [], _, h => absurd rfl h
  | [x], hb, _ => by
    have := hb x (by simp)
    simp only [sg]
    split <;> simp <;> omega
  | x :: y :: r, hb, _ => by
    have h1 := hb x (by simp)
    have h2 := sg_bd (y :: r) (fun z hz => hb z (by simp [hz])) (by simp)
    have e : (2 ^ (8 * (x :: y :: r).length) : Int) = 256 * 2 ^ (8 * (y :: r).length) := by
      rw [show 8 * (x :: y :: r).length = 8 + 8 * (y :: r).length by simp; omega, Int.pow_add]; rfl
    rw [e, sg_cons x _ (by simp)]
    omega
theorem pow_le8 {n : Nat} (h : n ≤ 8) : (2 ^ (8 * n) : Int) ≤ 18446744073709551616 := by
  have : n = 0 ∨ n = 1 ∨ n = 2 ∨ n = 3 ∨ n = 4 ∨ n = 5 ∨ n = 6 ∨ n = 7 ∨ n = 8 := by omega
  rcases this with rfl | rfl | rfl | rfl | rfl | rfl | rfl | rfl | rfl <;> decide
theorem pow_le7 {n : Nat} (h : n ≤ 7) : (2 ^ (8 * n) : Int) ≤ 72057594037927936 := by
  have : n = 0 ∨ n = 1 ∨ n = 2 ∨ n = 3 ∨ n = 4 ∨ n = 5 ∨ n = 6 ∨ n = 7 := by omega
  rcases this with rfl | rfl | rfl | rfl | rfl | rfl | rfl | rfl <;> decide
theorem sg_bd7 (l : List Int) (hb : IsBytes l) (h0 : l ≠ []) (h : l.length ≤ 7) : -36028797018963968 ≤ sg l ∧ sg l < 36028797018963968 := by
  have h1 := sg_bd l hb h0
  have h2 := pow_le7 h
  omega
theorem i64_or (x b : Int) (h0 : 0 ≤ b) (h1 : b < 256) (h2 : -36028797018963968 ≤ x) (h3 : x < 36028797018963968) : bits .or .i64 (x * 256) b = b + 256 * x := by
  have hb : (BitVec.ofInt 64 b).toNat = b.toNat := by
    rw [BitVec.toNat_ofInt]
    have : b % (2 ^ 64 : Nat) = b := by omega
    rw [this]
  have hx : (BitVec.ofInt 64 (x * 256)).toNat = 256 * (x % 72057594037927936).toNat := by
    rw [BitVec.toNat_ofInt]
    omega
  show IntKind.i64.wrap ((BitVec.ofInt 64 (x * 256) ||| BitVec.ofInt 64 b).toNat : Int) = _
  have ho : 256 * (x % 72057594037927936).toNat ||| b.toNat = 256 * (x % 72057594037927936).toNat + b.toNat :=
    nat_join 8 _ _ (by omega) (by omega)
  rw [BitVec.toNat_or, hb, hx, ho, IntKind.wrap_i64]
  omega
theorem add_off (b o i : Nat) : (⟨b, o, none⟩ : Addr).add i = ⟨b, o + i, none⟩ := by unfold Addr.add; split <;> simp_all
/-- The bytes at an address. -/
def At (w : World) (a : Addr) (l : List Int) : Prop := ∀ i : Nat, i < l.length → w.cell? (a.add i) = some (.int .u8 (l.getD i 0))
theorem at_of_reads {w : World} {B n : Nat} {a : Addr} {l : List Int} (h : Reads w B 1 (some a) n (l.map (Value.int .u8))) (hn : 0 < n) : At w a l := by
  intro i hi
  obtain ⟨ad, he, _, hc⟩ := h.2 hn
  injection he with he
  subst he
  have := hc i (.int .u8 l[i]) (by simp [hi])
  rw [this]
  simp [hi]
def SgRel (L : List Int) (v i : Value) : Prop := ∃ k : Nat, k < L.length ∧ i = .int .i64 ((k : Int) - 1) ∧ v = .int .i64 (sg (L.drop k))
theorem wrap_i8_sg (x : Int) (h0 : 0 ≤ x) (h1 : x < 256) : IntKind.i8.wrap x = sg [x] := by
  simp only [sg]
  obtain ⟨k, rfl⟩ := fin256 h0 h1
  have : ∀ k : Fin 256, IntKind.i8.wrap (k.val : Int) = if (k.val : Int) < 128 then (k.val : Int) else (k.val : Int) - 256 := by decide +kernel
  exact this k
theorem drop_last (L : List Int) (m : Nat) (h : L.length = m) (hm : 0 < m) : L.drop (m - 1) = [L.getD (m - 1) 0] := by
  have hl : m - 1 < L.length := by omega
  rw [List.drop_eq_getElem_cons hl, List.drop_eq_nil_of_le (by omega)]
  simp [hl]
theorem drop_cons (L : List Int) (j : Nat) (h : j < L.length) : L.drop j = L.getD j 0 :: L.drop (j + 1) := by
  rw [List.drop_eq_getElem_cons h]
  simp [h]
theorem wrap64_in (V : Int) (h0 : -36028797018963968 ≤ V) (h1 : V < 36028797018963968) : wrap64 (V * 256) = V * 256 := by unfold wrap64; omega
theorem sg_step {w : World} {a : Addr} {L : List Int} {m j : Nat} (hA : At w a L) (hB : IsBytes L) (hL : L.length = m) (hm : m ≤ 8) (hk : j + 1 < L.length) :
    ∃ y V, w.cell? (a.add j) = some (.int .u8 y) ∧ (0 ≤ y ∧ y < 256) ∧ Hid (sg (L.drop (j + 1)) = V ∧ bits .or .i64 (V * 256) y = sg (L.drop j) ∧ -36028797018963968 ≤ V ∧ V < 36028797018963968) := by
  have hbj : 0 ≤ L.getD j 0 ∧ L.getD j 0 < 256 := hB (L.getD j 0) (by
    have hh : j < L.length := by omega
    simp [hh])
  have hne : L.drop (j + 1) ≠ [] := by
    intro h0
    have := congrArg List.length h0
    simp at this
    omega
  have hbd := sg_bd7 (L.drop (j + 1)) (fun x hx => hB x (List.mem_of_mem_drop hx)) hne (by simp; omega)
  refine ⟨_, _, hA j (by omega), hbj, hide ⟨rfl, ?_, hbd.1, hbd.2⟩⟩
  rw [i64_or _ _ hbj.1 hbj.2 hbd.1 hbd.2, drop_cons L j (by omega), sg_cons _ _ hne]
set_option maxHeartbeats 400000 in
theorem signed_some (L : List Int) (n m c : Nat) (a : Addr) (w : World) (hl : L.length = m) (hat : At w a L) (hb : IsBytes L) (hm : 0 < m) (hmn : m = min n 8) (hc : n ≤ c) :
    Calls Try.prog 24 #[.slice (some a) n c] w fun e w' => e = .returned (.int .i64 (sg L)) ∧ w = w' := by
  have hlast := hat (m - 1) (by omega)
  have hbl := hb (L.getD (m - 1) 0) (by
    have hh : m - 1 < L.length := by omega
    simp [hh])
  have HL := hide hl
  have HA := hide hat
  have HB := hide hb
  have HS := hide (wrap_i8_sg _ hbl.1 hbl.2)
  have HD := hide (drop_last L m hl hm)
  have HZ := hide hbl
  clear hl hat hb hbl
  generalize L.getD (m - 1) 0 = z at *
  by_cases hn8 : n ≤ 8
  · obtain rfl : m = n := by omega
    clear hmn
    go_enter Try.func24, Try.ntmps24
    go_wp2
    have hw : wrap64 (IntKind.i8.wrap z) = sg (L.drop (m - 1)) := by
      rw [HS.out, HD.out]
      have := sg_bd7 [z] (by intro x hx; simp at hx; subst hx; exact HZ.out) (by simp) (by simp)
      unfold wrap64
      omega
    rw [hw]
    clear hw
    go_loop [3, 4] (fun v i => SgRel L v i) (fun _ i => (intOf i + 1).toNat)
    case atStart => exact ⟨m - 1, by have := HL.out; omega, by congr 1; omega, rfl⟩
    case round =>
      obtain ⟨k, hk, rfl, rfl⟩ := hrel
      rcases k with _ | j
      · go_wp2
        go_ret
        exact ⟨rfl, rfl⟩
      · obtain ⟨y, V, hj, hbj, HR⟩ := sg_step (m := m) HA.out HB.out HL.out (by omega) hk
        rw [show (((j + 1 : Nat) : Int) - 1) = (j : Int) by omega, HR.out.1]
        have hm8 : (j : Int) + 1 < m := by have := HL.out; omega
        go_wp2
        go_round
        case rel =>
          refine ⟨j, by omega, rfl, ?_⟩
          have hV := HR.out
          rw [show wrap64 (V * 256) = V * 256 from wrap64_in _ hV.2.2.1 hV.2.2.2, hV.2.1]
        case measure => simp [intOf]
  · obtain rfl : m = 8 := by omega
    have hlast' : w.cell? ⟨a.block, a.off + 7, none⟩ = some (.int .u8 z) := hlast
    clear hmn
    go_enter Try.func24, Try.ntmps24
    go_wp2
    have hw : wrap64 (IntKind.i8.wrap z) = sg (L.drop (8 - 1)) := by
      rw [HS.out, HD.out]
      have := sg_bd7 [z] (by intro x hx; simp at hx; subst hx; exact HZ.out) (by simp) (by simp)
      unfold wrap64
      omega
    rw [hw]
    clear hw
    go_loop [3, 4] (fun v i => SgRel L v i) (fun _ i => (intOf i + 1).toNat)
    case atStart => exact ⟨8 - 1, by have := HL.out; omega, rfl, rfl⟩
    case round =>
      obtain ⟨k, hk, rfl, rfl⟩ := hrel
      rcases k with _ | j
      · go_wp2
        go_ret
        exact ⟨rfl, rfl⟩
      · obtain ⟨y, V, hj, hbj, HR⟩ := sg_step (m := 8) HA.out HB.out HL.out (by omega) hk
        rw [show (((j + 1 : Nat) : Int) - 1) = (j : Int) by omega, HR.out.1]
        have hm8 : (j : Int) + 1 < 8 := by have := HL.out; omega
        go_wp2
        go_round
        case rel =>
          refine ⟨j, by omega, rfl, ?_⟩
          have hV := HR.out
          rw [show wrap64 (V * 256) = V * 256 from wrap64_in _ hV.2.2.1 hV.2.2.2, hV.2.1]
        case measure => simp [intOf]
set_option maxHeartbeats 400000 in
theorem signed_none (A : Option Addr) (c : Nat) (w : World) :
    Calls Try.prog 24 #[.slice A 0 c] w fun e w' => e = .returned (.int .i64 0) ∧ w = w' := by
  cases A
  all_goals
    go_enter Try.func24, Try.ntmps24
    go_wp2
    go_ret
    exact ⟨rfl, rfl⟩
theorem isBytes_take {l : List Int} (h : IsBytes l) (n : Nat) : IsBytes (l.take n) := fun x hx => h x (List.mem_of_mem_take hx)
theorem at_take {w : World} {a : Addr} {l : List Int} (h : At w a l) (n : Nat) : At w a (l.take n) := by
  intro i hi
  have h1 : i < n ∧ i < l.length := by rw [List.length_take] at hi; omega
  rw [h i h1.2]
  simp [h1.1, h1.2]
theorem signed_any (l : List Int) (n c B : Nat) (A : Option Addr) (w : World) (hl : Reads w B 1 A n (l.map (Value.int .u8))) (hb : IsBytes l) (hc : n ≤ c) :
    Calls Try.prog 24 #[.slice A n c] w fun e w' => e = .returned (.int .i64 (sg (l.take 8))) ∧ w = w' := by
  have hn : l.length = n := by have := hl.1; simpa using this
  rcases Nat.eq_zero_or_pos n with h0 | h0
  · subst h0
    have : l = [] := List.eq_nil_of_length_eq_zero hn
    subst this
    exact signed_none A c w
  · obtain ⟨a, rfl, _, _⟩ := hl.2 h0
    exact signed_some (l.take 8) n (min n 8) c a w (by simp; omega) (at_take (at_of_reads hl h0) 8) (isBytes_take hb 8) (by omega) rfl hc
/-- A number's value, without a sign, out of its bytes. -/
def us : List Int → Int
  | [] => 0
  | x :: r => x + 256 * us r
theorem us_bd : ∀ (l : List Int), IsBytes l → 0 ≤ us l ∧ us l < 2 ^ (8 * l.length)
  | [], _ => by simp [us]
  | x :: r, hb => by
    have h1 := hb x (by simp)
    have h2 := us_bd r (fun z hz => hb z (by simp [hz]))
    have e : (2 ^ (8 * (x :: r).length) : Int) = 256 * 2 ^ (8 * r.length) := by
      rw [show 8 * (x :: r).length = 8 + 8 * r.length by simp; omega, Int.pow_add]; rfl
    rw [e, us]
    omega
theorem sg_us : ∀ (l : List Int), IsBytes l → l ≠ [] → (2 * us l < 2 ^ (8 * l.length) ∧ sg l = us l) ∨ (2 ^ (8 * l.length) ≤ 2 * us l ∧ sg l = us l - 2 ^ (8 * l.length))
  | [], _, h => absurd rfl h
  | [x], hb, _ => by
    have := hb x (by simp)
    simp only [sg, us]
    split <;> simp <;> omega
  | x :: y :: r, hb, _ => by
    have h1 := hb x (by simp)
    have h2 := sg_us (y :: r) (fun z hz => hb z (by simp [hz])) (by simp)
    have e : (2 ^ (8 * (x :: y :: r).length) : Int) = 256 * 2 ^ (8 * (y :: r).length) := by
      rw [show 8 * (x :: y :: r).length = 8 + 8 * (y :: r).length by simp; omega, Int.pow_add]; rfl
    have e2 : (2 ^ (8 * (y :: r).length) : Int) = 2 * 2 ^ (7 + 8 * r.length) := by
      rw [show 8 * (y :: r).length = 1 + (7 + 8 * r.length) by simp; omega, Int.pow_add]; rfl
    rw [e, sg_cons x _ (by simp)]
    rw [show us (x :: y :: r) = x + 256 * us (y :: r) from rfl]
    generalize us (y :: r) = U at *
    generalize sg (y :: r) = S at *
    generalize (2 : Int) ^ (7 + 8 * r.length) = P at *
    omega
theorem us_shift (L : List Int) (m : Nat) (hb : IsBytes L) (hl : L.length = m) (h0 : 0 < m) (h8 : m ≤ 8) :
    wrap64 (IntKind.u64.wrap (us L * 2 ^ (64 - 8 * m))) / 2 ^ (64 - 8 * m) = sg L := by
  have h1 := us_bd L hb
  have h2 := sg_us L hb (by rintro rfl; simp at hl; omega)
  rw [hl] at h1 h2
  generalize us L = U at *
  generalize sg L = S at *
  rw [IntKind.wrap_u64]
  unfold wrap64
  have : m = 1 ∨ m = 2 ∨ m = 3 ∨ m = 4 ∨ m = 5 ∨ m = 6 ∨ m = 7 ∨ m = 8 := by omega
  rcases this with rfl | rfl | rfl | rfl | rfl | rfl | rfl | rfl
  all_goals simp at h1 h2 ⊢
  all_goals omega
theorem us_step {w : World} {a : Addr} {L : List Int} {m j : Nat} (hA : At w a L) (hB : IsBytes L) (hL : L.length = m) (hm : m ≤ 8) (hk : j + 1 ≤ L.length) :
    ∃ y V, w.cell? (a.add j) = some (.int .u8 y) ∧ (0 ≤ y ∧ y < 256) ∧ (0 ≤ V) ∧ Hid (us (L.drop (j + 1)) = V ∧ bits .or .u64 (V * 256) y = us (L.drop j) ∧ V * 256 < 18446744073709551616) := by
  have hbj : 0 ≤ L.getD j 0 ∧ L.getD j 0 < 256 := hB (L.getD j 0) (by
    have hh : j < L.length := by omega
    simp [hh])
  have hbd := us_bd (L.drop (j + 1)) (fun x hx => hB x (List.mem_of_mem_drop hx))
  have h7 := pow_le7 (n := (L.drop (j + 1)).length) (by simp; omega)
  refine ⟨_, _, hA j (by omega), hbj, hbd.1, hide ⟨rfl, ?_, by omega⟩⟩
  rw [drop_cons L j (by omega), us]
  generalize us (L.drop (j + 1)) = V at *
  generalize L.getD j 0 = y at *
  rw [u64_or (V * 256) y (by omega) (by omega) (by omega) (by omega), nat_join 8 _ _ (by omega) (by omega)]
  omega
def UsRel (L : List Int) (u i : Value) : Prop := ∃ k : Nat, k ≤ L.length ∧ i = .int .i64 ((k : Int) - 1) ∧ u = .int .u64 (us (L.drop k))
theorem ret_i {k : IntKind} {a b : Int} (h : a = b) : Ending.returned (.int k a) = .returned (.int k b) := by rw [h]
set_option maxHeartbeats 400000 in
theorem rsigned_some (L : List Int) (n m c : Nat) (a : Addr) (w : World) (hl : L.length = m) (hat : At w a L) (hb : IsBytes L) (hm : 0 < m) (hmn : m = min n 8) (hc : n ≤ c) :
    Calls Try.prog 25 #[.slice (some a) n c] w fun e w' => e = .returned (.int .i64 (sg L)) ∧ w = w' := by
  have HL := hide hl
  have HA := hide hat
  have HB := hide hb
  clear hl hat hb
  by_cases hn8 : n ≤ 8
  · obtain rfl : m = n := by omega
    clear hmn
    go_enter Try.func25, Try.ntmps25
    go_wp2
    go_loop [4, 5] (fun v i => UsRel L v i) (fun _ i => (intOf i + 1).toNat)
    case atStart => exact ⟨m, by have := HL.out; omega, rfl, by have := HL.out; rw [List.drop_of_length_le (by omega)]; rfl⟩
    case round =>
      obtain ⟨k, hk, rfl, rfl⟩ := hrel
      rcases k with _ | j
      · have HU := hide (us_shift L m HB.out HL.out (by omega) (by omega))
        rw [List.drop_zero]
        generalize us L = U at *
        go_wp2
        go_ret
        exact ⟨ret_i HU.out, rfl⟩
      · obtain ⟨y, V, hj, hbj, hV, HR⟩ := us_step (m := m) HA.out HB.out HL.out (by omega) hk
        rw [show (((j + 1 : Nat) : Int) - 1) = (j : Int) by omega, HR.out.1]
        have hm8 : (j : Int) < m := by have := HL.out; omega
        go_wp2
        go_round
        case rel =>
          refine ⟨j, by omega, rfl, ?_⟩
          have hV := HR.out
          rw [IntKind.wrap_u64, show V * 256 % 18446744073709551616 = V * 256 by omega, hV.2.1]
        case measure => simp [intOf]
  · obtain rfl : m = 8 := by omega
    clear hmn
    go_enter Try.func25, Try.ntmps25
    go_wp2
    go_loop [4, 5] (fun v i => UsRel L v i) (fun _ i => (intOf i + 1).toNat)
    case atStart => exact ⟨8, by have := HL.out; omega, rfl, by have := HL.out; rw [List.drop_of_length_le (by omega)]; rfl⟩
    case round =>
      obtain ⟨k, hk, rfl, rfl⟩ := hrel
      rcases k with _ | j
      · have HU := hide (us_shift L 8 HB.out HL.out (by omega) (by omega))
        rw [List.drop_zero]
        generalize us L = U at *
        go_wp2
        go_ret
        exact ⟨ret_i (by simpa using HU.out), rfl⟩
      · obtain ⟨y, V, hj, hbj, hV, HR⟩ := us_step (m := 8) HA.out HB.out HL.out (by omega) hk
        rw [show (((j + 1 : Nat) : Int) - 1) = (j : Int) by omega, HR.out.1]
        have hm8 : (j : Int) < 8 := by have := HL.out; omega
        go_wp2
        go_round
        case rel =>
          refine ⟨j, by omega, rfl, ?_⟩
          have hV := HR.out
          rw [IntKind.wrap_u64, show V * 256 % 18446744073709551616 = V * 256 by omega, hV.2.1]
        case measure => simp [intOf]
set_option maxHeartbeats 400000 in
theorem rsigned_none (A : Option Addr) (c : Nat) (w : World) :
    Calls Try.prog 25 #[.slice A 0 c] w fun e w' => e = .returned (.int .i64 0) ∧ w = w' := by
  cases A
  all_goals
    go_enter Try.func25, Try.ntmps25
    go_wp2
    go_ret
    exact ⟨rfl, rfl⟩
theorem rsigned_any (l : List Int) (n c B : Nat) (A : Option Addr) (w : World) (hl : Reads w B 1 A n (l.map (Value.int .u8))) (hb : IsBytes l) (hc : n ≤ c) :
    Calls Try.prog 25 #[.slice A n c] w fun e w' => e = .returned (.int .i64 (sg (l.take 8))) ∧ w = w' := by
  have hn : l.length = n := by have := hl.1; simpa using this
  rcases Nat.eq_zero_or_pos n with h0 | h0
  · subst h0
    have : l = [] := List.eq_nil_of_length_eq_zero hn
    subst this
    exact rsigned_none A c w
  · obtain ⟨a, rfl, _, _⟩ := hl.2 h0
    exact rsigned_some (l.take 8) n (min n 8) c a w (by simp; omega) (at_take (at_of_reads hl h0) 8) (isBytes_take hb 8) (by omega) rfl hc
end Go.Proofs.Ytladeiighbbioaa
