/-
  Contracts of Read of modrm and latheref12: what any bytes read as. Conditions: those written in each statement.
-/
import Derived.Test.YtladeiighbbioaaWc
namespace Go.Proofs.Ytladeiighbbioaa
open Go.RowKit
def rdNo : Value := .tuple #[.int .i8 0, .int .i8 0, .int .i64 0, .bool false, .int .i64 0, .int .i64 30]
/-- What bytes read as. -/
def rdV (l : List Int) : Value :=
  match l with
  | [] => rdNo
  | b :: r =>
    if b < 128 then rdNo
    else if 192 ≤ b then .tuple #[.int .i8 (b / 8 % 8), .int .i8 (b % 8), .int .i64 0, .bool false, .int .i64 1, .int .i64 0]
    else if b % 8 = 4 then
      (if 6 ≤ l.length ∧ r.getD 0 0 = 36 then .tuple #[.int .i8 (b / 8 % 8), .int .i8 (b % 8), .int .i64 (sg ((l.drop 2).take 4)), .bool true, .int .i64 6, .int .i64 0] else rdNo)
    else if 5 ≤ l.length then .tuple #[.int .i8 (b / 8 % 8), .int .i8 (b % 8), .int .i64 (sg ((l.drop 1).take 4)), .bool true, .int .i64 5, .int .i64 0] else rdNo
theorem wrap_i8_small (x : Int) (h0 : 0 ≤ x) (h1 : x < 8) : IntKind.i8.wrap x = x := by simp [IntKind.wrap, IntKind.bits, IntKind.signed]; omega
theorem at_drop {w : World} {a : Addr} {l : List Int} (h : At w a l) (k : Nat) : At w (a.add k) (l.drop k) := by
  intro i hi
  have h1 : k + i < l.length := by rw [List.length_drop] at hi; omega
  rw [add_of_add, h _ h1]
  simp [h1]
theorem ret6 {a a' b b' d d' n n' e e' : Int} {m m' : Bool} (h1 : a = a') (h2 : b = b') (h3 : d = d') (h4 : m = m') (h5 : n = n') (h6 : e = e') :
    Ending.returned (.tuple #[.int .i8 a, .int .i8 b, .int .i64 d, .bool m, .int .i64 n, .int .i64 e]) = .returned (.tuple #[.int .i8 a', .int .i8 b', .int .i64 d', .bool m', .int .i64 n', .int .i64 e']) := by rw [h1, h2, h3, h4, h5, h6]
set_option maxHeartbeats 400000 in
theorem read_hi (b : Int) (r : List Int) (a : Addr) (n c : Nat) (w : World) (hn : n = r.length + 1) (_hc : n ≤ c) (hat : w.cell? a = some (.int .u8 b)) (h0 : 192 ≤ b) (h1 : b < 256) :
    Calls Try.prog 22 #[.slice (some a) n c] w fun e w' => e = .returned (rdV (b :: r)) ∧ ∃ k, w.drewN k = w' := by
  have hv : rdV (b :: r) = .tuple #[.int .i8 (b / 8 % 8), .int .i8 (b % 8), .int .i64 0, .bool false, .int .i64 1, .int .i64 0] := by
    simp only [rdV, List.length_cons, ← hn]
    rw [if_neg (by omega), if_pos h0]
  have HV := hide hv
  have hp : 0 < n := by omega
  have hp0 : ((n : Int) == 0) = false := by simp; omega
  have _HN := hide hn
  clear hv hn
  go_enter Try.func22, Try.ntmps22
  go_wp2
  go_quiet (fail)
  go_wp2
  refine bodyPost_ret (results_tmp6 rfl _ _ _) rfl ?_
  rw [HV.out]
  exact ⟨ret6 rfl rfl rfl rfl rfl rfl, ⟨_, rfl⟩⟩
set_option maxHeartbeats 400000 in
theorem read_lo (b : Int) (r : List Int) (a : Addr) (n c : Nat) (w : World) (hn : n = r.length + 1) (_hc : n ≤ c) (hat : w.cell? a = some (.int .u8 b)) (h0 : 0 ≤ b) (h1 : b < 128) :
    Calls Try.prog 22 #[.slice (some a) n c] w fun e w' => e = .returned (rdV (b :: r)) ∧ ∃ k, w.drewN k = w' := by
  have hv : rdV (b :: r) = rdNo := by
    simp only [rdV, List.length_cons, ← hn]
    rw [if_pos (by omega)]
  have HV := hide hv
  have hp : 0 < n := by omega
  have hp0 : ((n : Int) == 0) = false := by simp; omega
  have _HN := hide hn
  clear hv hn
  go_enter Try.func22, Try.ntmps22
  go_wp2
  go_quiet (fail)
  go_wp2
  refine bodyPost_ret (results_tmp6 rfl _ _ _) rfl ?_
  rw [HV.out]
  exact ⟨rfl, ⟨_, rfl⟩⟩
set_option maxHeartbeats 400000 in
theorem read_short5 (b : Int) (r : List Int) (a : Addr) (n c : Nat) (w : World) (hn : n = r.length + 1) (_hc : n ≤ c) (hat : w.cell? a = some (.int .u8 b)) (h0 : 128 ≤ b) (h1 : b < 192) (h4 : b % 8 ≠ 4) (h5 : n < 5) :
    Calls Try.prog 22 #[.slice (some a) n c] w fun e w' => e = .returned (rdV (b :: r)) ∧ ∃ k, w.drewN k = w' := by
  have hv : rdV (b :: r) = rdNo := by
    simp only [rdV, List.length_cons, ← hn]
    rw [if_neg (by omega), if_neg (by omega), if_neg h4, if_neg (by omega)]
  have HV := hide hv
  have hp : 0 < n := by omega
  have hp0 : ((n : Int) == 0) = false := by simp; omega
  have _HN := hide hn
  clear hv hn
  go_enter Try.func22, Try.ntmps22
  go_wp2
  go_quiet (fail)
  go_wp2
  refine bodyPost_ret (results_tmp6 rfl _ _ _) rfl ?_
  rw [HV.out]
  exact ⟨rfl, ⟨_, rfl⟩⟩
set_option maxHeartbeats 400000 in
theorem read_mem5 (b : Int) (r : List Int) (a : Addr) (n c : Nat) (w : World) (hn : n = r.length + 1) (_hc : n ≤ c) (hat : w.cell? a = some (.int .u8 b)) (hA : At w a (b :: r)) (hB : IsBytes (b :: r)) (h0 : 128 ≤ b) (h1 : b < 192) (h4 : b % 8 ≠ 4) (h5 : 5 ≤ n) :
    Calls Try.prog 22 #[.slice (some a) n c] w fun e w' => e = .returned (rdV (b :: r)) ∧ ∃ k, w.drewN k = w' := by
  have hv : rdV (b :: r) = .tuple #[.int .i8 (b / 8 % 8), .int .i8 (b % 8), .int .i64 (sg (((b :: r).drop 1).take 4)), .bool true, .int .i64 5, .int .i64 0] := by
    simp only [rdV, List.length_cons, ← hn]
    rw [if_neg (by omega), if_neg (by omega), if_neg h4, if_pos h5]
  have HV := hide hv
  have hp : 0 < n := by omega
  have hp0 : ((n : Int) == 0) = false := by simp; omega
  have _HN := hide hn
  have HS := hide (p := (((b :: r).drop 1).take 4).length = 4 ∧ At w ⟨a.block, a.off + 1, none⟩ (((b :: r).drop 1).take 4) ∧ IsBytes (((b :: r).drop 1).take 4)) ⟨by simp; omega, at_take (at_drop hA 1) 4, isBytes_take (fun x hx => hB x (List.mem_of_mem_drop hx)) 4⟩
  generalize hLL : ((b :: r).drop 1).take 4 = L at *
  clear hA hB hLL
  clear hv hn
  go_enter Try.func22, Try.ntmps22
  go_wp2
  go_quiet (fail)
  go_wp2_with fail
  refine ((signed_some L 4 4 _ _ _ HS.out.1 (by exact HS.out.2.1) HS.out.2.2 (by omega) rfl (by omega))).mono ?_
  rintro e w' ⟨rfl, rfl⟩
  go_wp2
  refine bodyPost_ret (results_tmp6 rfl _ _ _) rfl ?_
  rw [HV.out]
  exact ⟨ret6 rfl rfl rfl rfl rfl rfl, ⟨_, rfl⟩⟩
set_option maxHeartbeats 400000 in
theorem read_short6 (b : Int) (r : List Int) (a : Addr) (n c : Nat) (w : World) (hn : n = r.length + 1) (_hc : n ≤ c) (hat : w.cell? a = some (.int .u8 b)) (h0 : 128 ≤ b) (h1 : b < 192) (h4 : b % 8 = 4) (h5 : n < 6) :
    Calls Try.prog 22 #[.slice (some a) n c] w fun e w' => e = .returned (rdV (b :: r)) ∧ ∃ k, w.drewN k = w' := by
  have hv : rdV (b :: r) = rdNo := by
    simp only [rdV, List.length_cons, ← hn]
    rw [if_neg (by omega), if_neg (by omega), if_pos h4, if_neg (by omega)]
  have HV := hide hv
  have hp : 0 < n := by omega
  have hp0 : ((n : Int) == 0) = false := by simp; omega
  have _HN := hide hn
  clear hv hn
  go_enter Try.func22, Try.ntmps22
  go_wp2
  go_quiet (fail)
  go_wp2
  refine bodyPost_ret (results_tmp6 rfl _ _ _) rfl ?_
  rw [HV.out]
  exact ⟨rfl, ⟨_, rfl⟩⟩
set_option maxHeartbeats 400000 in
theorem read_mem6 (b : Int) (r : List Int) (a : Addr) (n c : Nat) (w : World) (hn : n = r.length + 1) (_hc : n ≤ c) (hat : w.cell? a = some (.int .u8 b)) (hA : At w a (b :: r)) (hB : IsBytes (b :: r)) (h0 : 128 ≤ b) (h1 : b < 192) (h4 : b % 8 = 4) (h5 : 6 ≤ n) (h6 : r.getD 0 0 = 36) :
    Calls Try.prog 22 #[.slice (some a) n c] w fun e w' => e = .returned (rdV (b :: r)) ∧ ∃ k, w.drewN k = w' := by
  have hv : rdV (b :: r) = .tuple #[.int .i8 (b / 8 % 8), .int .i8 (b % 8), .int .i64 (sg (((b :: r).drop 2).take 4)), .bool true, .int .i64 6, .int .i64 0] := by
    simp only [rdV, List.length_cons, ← hn]
    rw [if_neg (by omega), if_neg (by omega), if_pos h4, if_pos ⟨h5, h6⟩]
  have HV := hide hv
  have hp : 0 < n := by omega
  have hp0 : ((n : Int) == 0) = false := by simp; omega
  have _HN := hide hn
  have h36 : w.cell? ⟨a.block, a.off + 1, none⟩ = some (.int .u8 36) := by rw [← h6]; exact hA 1 (by simp; omega)
  have HS := hide (p := (((b :: r).drop 2).take 4).length = 4 ∧ At w ⟨a.block, a.off + 2, none⟩ (((b :: r).drop 2).take 4) ∧ IsBytes (((b :: r).drop 2).take 4)) ⟨by simp; omega, at_take (at_drop hA 2) 4, isBytes_take (fun x hx => hB x (List.mem_of_mem_drop hx)) 4⟩
  generalize hLL : ((b :: r).drop 2).take 4 = L at *
  clear hA hB hLL
  clear h6
  clear hv hn
  go_enter Try.func22, Try.ntmps22
  go_wp2
  go_quiet (fail)
  go_wp2_with fail
  refine ((signed_some L 4 4 _ _ _ HS.out.1 (by exact HS.out.2.1) HS.out.2.2 (by omega) rfl (by omega))).mono ?_
  rintro e w' ⟨rfl, rfl⟩
  go_wp2
  refine bodyPost_ret (results_tmp6 rfl _ _ _) rfl ?_
  rw [HV.out]
  exact ⟨ret6 rfl h4.symm rfl rfl rfl rfl, ⟨_, rfl⟩⟩
set_option maxHeartbeats 400000 in
theorem read_bad6 (b : Int) (r : List Int) (a : Addr) (n c : Nat) (w : World) (hn : n = r.length + 1) (_hc : n ≤ c) (hat : w.cell? a = some (.int .u8 b)) (hA : At w a (b :: r)) (h0 : 128 ≤ b) (h1 : b < 192) (h4 : b % 8 = 4) (h5 : 6 ≤ n) (h6 : r.getD 0 0 ≠ 36) :
    Calls Try.prog 22 #[.slice (some a) n c] w fun e w' => e = .returned (rdV (b :: r)) ∧ ∃ k, w.drewN k = w' := by
  have hv : rdV (b :: r) = rdNo := by
    simp only [rdV, List.length_cons, ← hn]
    rw [if_neg (by omega), if_neg (by omega), if_pos h4, if_neg (by intro h; exact h6 h.2)]
  have HV := hide hv
  have hp : 0 < n := by omega
  have hp0 : ((n : Int) == 0) = false := by simp; omega
  have _HN := hide hn
  have h36 : w.cell? ⟨a.block, a.off + 1, none⟩ = some (.int .u8 (r.getD 0 0)) := hA 1 (by simp; omega)
  clear hA
  generalize r.getD 0 0 = z at *
  have hz := bne_iff_ne.2 h6
  have hz2 := beq_eq_false_iff_ne.2 h6
  clear h6
  clear hv hn
  go_enter Try.func22, Try.ntmps22
  go_wp2
  go_quiet (fail)
  go_wp2
  refine bodyPost_ret (results_tmp6 rfl _ _ _) rfl ?_
  rw [HV.out]
  exact ⟨rfl, ⟨_, rfl⟩⟩
set_option maxHeartbeats 400000 in
theorem read_nil (A : Option Addr) (c : Nat) (w : World) :
    Calls Try.prog 22 #[.slice A 0 c] w fun e w' => e = .returned (rdV []) ∧ ∃ k, w.drewN k = w' := by
  cases A
  all_goals
    go_enter Try.func22, Try.ntmps22
    go_wp2
    refine bodyPost_ret (results_tmp6 rfl _ _ _) rfl ?_
    exact ⟨rfl, ⟨0, rfl⟩⟩
set_option maxHeartbeats 400000 in
theorem rread_hi (b : Int) (r : List Int) (a : Addr) (n c : Nat) (w : World) (hn : n = r.length + 1) (_hc : n ≤ c) (hat : w.cell? a = some (.int .u8 b)) (h0 : 192 ≤ b) (h1 : b < 256) :
    Calls Try.prog 23 #[.slice (some a) n c] w fun e w' => e = .returned (rdV (b :: r)) ∧ ∃ k, w.drewN k = w' := by
  have hv : rdV (b :: r) = .tuple #[.int .i8 (b / 8 % 8), .int .i8 (b % 8), .int .i64 0, .bool false, .int .i64 1, .int .i64 0] := by
    simp only [rdV, List.length_cons, ← hn]
    rw [if_neg (by omega), if_pos h0]
  have HV := hide hv
  have hp : 0 < n := by omega
  have hp0 : ((n : Int) == 0) = false := by simp; omega
  have _HN := hide hn
  clear hv hn
  go_enter Try.func23, Try.ntmps23
  go_wp2
  go_quiet (fail)
  go_wp2
  refine bodyPost_ret (results_tmp6 rfl _ _ _) rfl ?_
  rw [HV.out]
  exact ⟨ret6 rfl rfl rfl rfl rfl rfl, ⟨_, rfl⟩⟩
set_option maxHeartbeats 400000 in
theorem rread_lo (b : Int) (r : List Int) (a : Addr) (n c : Nat) (w : World) (hn : n = r.length + 1) (_hc : n ≤ c) (hat : w.cell? a = some (.int .u8 b)) (_h0 : 0 ≤ b) (h1 : b < 128) :
    Calls Try.prog 23 #[.slice (some a) n c] w fun e w' => e = .returned (rdV (b :: r)) ∧ ∃ k, w.drewN k = w' := by
  have hv : rdV (b :: r) = rdNo := by
    simp only [rdV, List.length_cons, ← hn]
    rw [if_pos (by omega)]
  have HV := hide hv
  have hp : 0 < n := by omega
  have hp0 : ((n : Int) == 0) = false := by simp; omega
  have _HN := hide hn
  clear hv hn
  go_enter Try.func23, Try.ntmps23
  go_wp2
  refine bodyPost_ret (results_tmp6 rfl _ _ _) rfl ?_
  rw [HV.out]
  exact ⟨rfl, ⟨0, rfl⟩⟩
set_option maxHeartbeats 400000 in
theorem rread_short5 (b : Int) (r : List Int) (a : Addr) (n c : Nat) (w : World) (hn : n = r.length + 1) (_hc : n ≤ c) (hat : w.cell? a = some (.int .u8 b)) (h0 : 128 ≤ b) (h1 : b < 192) (h4 : b % 8 ≠ 4) (h5 : n < 5) :
    Calls Try.prog 23 #[.slice (some a) n c] w fun e w' => e = .returned (rdV (b :: r)) ∧ ∃ k, w.drewN k = w' := by
  have hv : rdV (b :: r) = rdNo := by
    simp only [rdV, List.length_cons, ← hn]
    rw [if_neg (by omega), if_neg (by omega), if_neg h4, if_neg (by omega)]
  have HV := hide hv
  have hp : 0 < n := by omega
  have hp0 : ((n : Int) == 0) = false := by simp; omega
  have _HN := hide hn
  clear hv hn
  go_enter Try.func23, Try.ntmps23
  go_wp2
  go_quiet (fail)
  go_wp2
  refine bodyPost_ret (results_tmp6 rfl _ _ _) rfl ?_
  rw [HV.out]
  exact ⟨rfl, ⟨_, rfl⟩⟩
set_option maxHeartbeats 400000 in
theorem rread_mem5 (b : Int) (r : List Int) (a : Addr) (n c : Nat) (w : World) (hn : n = r.length + 1) (_hc : n ≤ c) (hat : w.cell? a = some (.int .u8 b)) (hA : At w a (b :: r)) (hB : IsBytes (b :: r)) (h0 : 128 ≤ b) (h1 : b < 192) (h4 : b % 8 ≠ 4) (h5 : 5 ≤ n) :
    Calls Try.prog 23 #[.slice (some a) n c] w fun e w' => e = .returned (rdV (b :: r)) ∧ ∃ k, w.drewN k = w' := by
  have hv : rdV (b :: r) = .tuple #[.int .i8 (b / 8 % 8), .int .i8 (b % 8), .int .i64 (sg (((b :: r).drop 1).take 4)), .bool true, .int .i64 5, .int .i64 0] := by
    simp only [rdV, List.length_cons, ← hn]
    rw [if_neg (by omega), if_neg (by omega), if_neg h4, if_pos h5]
  have HV := hide hv
  have hp : 0 < n := by omega
  have hp0 : ((n : Int) == 0) = false := by simp; omega
  have _HN := hide hn
  have HS := hide (p := (((b :: r).drop 1).take 4).length = 4 ∧ At w ⟨a.block, a.off + 1, none⟩ (((b :: r).drop 1).take 4) ∧ IsBytes (((b :: r).drop 1).take 4)) ⟨by simp; omega, at_take (at_drop hA 1) 4, isBytes_take (fun x hx => hB x (List.mem_of_mem_drop hx)) 4⟩
  generalize hLL : ((b :: r).drop 1).take 4 = L at *
  clear hA hB hLL
  clear hv hn
  go_enter Try.func23, Try.ntmps23
  go_wp2
  go_quiet (fail)
  go_wp2_with fail
  refine ((rsigned_some L 4 4 _ _ _ HS.out.1 (by exact HS.out.2.1) HS.out.2.2 (by omega) rfl (by omega))).mono ?_
  rintro e w' ⟨rfl, rfl⟩
  go_wp2
  refine bodyPost_ret (results_tmp6 rfl _ _ _) rfl ?_
  rw [HV.out]
  exact ⟨ret6 rfl rfl rfl rfl rfl rfl, ⟨_, rfl⟩⟩
set_option maxHeartbeats 400000 in
theorem rread_short1 (b : Int) (r : List Int) (a : Addr) (n c : Nat) (w : World) (hn : n = r.length + 1) (_hc : n ≤ c) (hat : w.cell? a = some (.int .u8 b)) (h0 : 128 ≤ b) (h1 : b < 192) (h4 : b % 8 = 4) (h5 : n < 2) :
    Calls Try.prog 23 #[.slice (some a) n c] w fun e w' => e = .returned (rdV (b :: r)) ∧ ∃ k, w.drewN k = w' := by
  have hv : rdV (b :: r) = rdNo := by
    simp only [rdV, List.length_cons, ← hn]
    rw [if_neg (by omega), if_neg (by omega), if_pos h4, if_neg (by omega)]
  have HV := hide hv
  have hp : 0 < n := by omega
  have hp0 : ((n : Int) == 0) = false := by simp; omega
  have _HN := hide hn
  clear hv hn
  go_enter Try.func23, Try.ntmps23
  go_wp2
  go_quiet (fail)
  go_wp2
  refine bodyPost_ret (results_tmp6 rfl _ _ _) rfl ?_
  rw [HV.out]
  exact ⟨rfl, ⟨_, rfl⟩⟩
set_option maxHeartbeats 400000 in
theorem rread_short6 (b : Int) (r : List Int) (a : Addr) (n c : Nat) (w : World) (hn : n = r.length + 1) (_hc : n ≤ c) (hat : w.cell? a = some (.int .u8 b)) (hA : At w a (b :: r)) (h0 : 128 ≤ b) (h1 : b < 192) (h4 : b % 8 = 4) (h2 : 2 ≤ n) (h5 : n < 6) (h6 : r.getD 0 0 = 36) :
    Calls Try.prog 23 #[.slice (some a) n c] w fun e w' => e = .returned (rdV (b :: r)) ∧ ∃ k, w.drewN k = w' := by
  have hv : rdV (b :: r) = rdNo := by
    simp only [rdV, List.length_cons, ← hn]
    rw [if_neg (by omega), if_neg (by omega), if_pos h4, if_neg (by omega)]
  have HV := hide hv
  have hp : 0 < n := by omega
  have hp0 : ((n : Int) == 0) = false := by simp; omega
  have _HN := hide hn
  have h36 : w.cell? ⟨a.block, a.off + 1, none⟩ = some (.int .u8 36) := by rw [← h6]; exact hA 1 (by simp; omega)
  clear hA h6
  clear hv hn
  go_enter Try.func23, Try.ntmps23
  go_wp2
  go_quiet (fail)
  go_wp2
  refine bodyPost_ret (results_tmp6 rfl _ _ _) rfl ?_
  rw [HV.out]
  exact ⟨rfl, ⟨_, rfl⟩⟩
set_option maxHeartbeats 400000 in
theorem rread_mem6 (b : Int) (r : List Int) (a : Addr) (n c : Nat) (w : World) (hn : n = r.length + 1) (_hc : n ≤ c) (hat : w.cell? a = some (.int .u8 b)) (hA : At w a (b :: r)) (hB : IsBytes (b :: r)) (h0 : 128 ≤ b) (h1 : b < 192) (h4 : b % 8 = 4) (h5 : 6 ≤ n) (h6 : r.getD 0 0 = 36) :
    Calls Try.prog 23 #[.slice (some a) n c] w fun e w' => e = .returned (rdV (b :: r)) ∧ ∃ k, w.drewN k = w' := by
  have hv : rdV (b :: r) = .tuple #[.int .i8 (b / 8 % 8), .int .i8 (b % 8), .int .i64 (sg (((b :: r).drop 2).take 4)), .bool true, .int .i64 6, .int .i64 0] := by
    simp only [rdV, List.length_cons, ← hn]
    rw [if_neg (by omega), if_neg (by omega), if_pos h4, if_pos ⟨h5, h6⟩]
  have HV := hide hv
  have hp : 0 < n := by omega
  have hp0 : ((n : Int) == 0) = false := by simp; omega
  have _HN := hide hn
  have h36 : w.cell? ⟨a.block, a.off + 1, none⟩ = some (.int .u8 36) := by rw [← h6]; exact hA 1 (by simp; omega)
  have HS := hide (p := (((b :: r).drop 2).take 4).length = 4 ∧ At w ⟨a.block, a.off + 2, none⟩ (((b :: r).drop 2).take 4) ∧ IsBytes (((b :: r).drop 2).take 4)) ⟨by simp; omega, at_take (at_drop hA 2) 4, isBytes_take (fun x hx => hB x (List.mem_of_mem_drop hx)) 4⟩
  generalize hLL : ((b :: r).drop 2).take 4 = L at *
  clear hA hB hLL
  clear h6
  clear hv hn
  go_enter Try.func23, Try.ntmps23
  go_wp2
  go_quiet (fail)
  go_wp2_with fail
  refine ((rsigned_some L 4 4 _ _ _ HS.out.1 (by exact HS.out.2.1) HS.out.2.2 (by omega) rfl (by omega))).mono ?_
  rintro e w' ⟨rfl, rfl⟩
  go_wp2
  refine bodyPost_ret (results_tmp6 rfl _ _ _) rfl ?_
  rw [HV.out]
  exact ⟨ret6 rfl h4.symm rfl rfl rfl rfl, ⟨_, rfl⟩⟩
set_option maxHeartbeats 400000 in
theorem rread_bad6 (b : Int) (r : List Int) (a : Addr) (n c : Nat) (w : World) (hn : n = r.length + 1) (_hc : n ≤ c) (hat : w.cell? a = some (.int .u8 b)) (hA : At w a (b :: r)) (h0 : 128 ≤ b) (h1 : b < 192) (h4 : b % 8 = 4) (h5 : 2 ≤ n) (h6 : r.getD 0 0 ≠ 36) :
    Calls Try.prog 23 #[.slice (some a) n c] w fun e w' => e = .returned (rdV (b :: r)) ∧ ∃ k, w.drewN k = w' := by
  have hv : rdV (b :: r) = rdNo := by
    simp only [rdV, List.length_cons, ← hn]
    rw [if_neg (by omega), if_neg (by omega), if_pos h4, if_neg (by intro h; exact h6 h.2)]
  have HV := hide hv
  have hp : 0 < n := by omega
  have hp0 : ((n : Int) == 0) = false := by simp; omega
  have _HN := hide hn
  have h36 : w.cell? ⟨a.block, a.off + 1, none⟩ = some (.int .u8 (r.getD 0 0)) := hA 1 (by simp; omega)
  clear hA
  generalize r.getD 0 0 = z at *
  have hz := bne_iff_ne.2 h6
  have hz2 := beq_eq_false_iff_ne.2 h6
  clear h6
  clear hv hn
  go_enter Try.func23, Try.ntmps23
  go_wp2
  go_quiet (fail)
  go_wp2
  refine bodyPost_ret (results_tmp6 rfl _ _ _) rfl ?_
  rw [HV.out]
  exact ⟨rfl, ⟨_, rfl⟩⟩
set_option maxHeartbeats 400000 in
theorem rread_nil (A : Option Addr) (c : Nat) (w : World) :
    Calls Try.prog 23 #[.slice A 0 c] w fun e w' => e = .returned (rdV []) ∧ ∃ k, w.drewN k = w' := by
  cases A
  all_goals
    go_enter Try.func23, Try.ntmps23
    go_wp2
    refine bodyPost_ret (results_tmp6 rfl _ _ _) rfl ?_
    exact ⟨rfl, ⟨0, rfl⟩⟩
theorem read_any (l : List Int) (n c B : Nat) (A : Option Addr) (w : World) (hl : Reads w B 1 A n (l.map (Value.int .u8))) (hb : IsBytes l) (hc : n ≤ c) :
    Calls Try.prog 22 #[.slice A n c] w fun e w' => e = .returned (rdV l) ∧ ∃ k, w.drewN k = w' := by
  have hn : l.length = n := by have := hl.1; simpa using this
  cases l with
  | nil => simp at hn; subst hn; exact read_nil A c w
  | cons b r =>
    obtain ⟨a, rfl, _, _⟩ := hl.2 (by simp at hn; omega)
    have hA := at_of_reads hl (by simp at hn; omega)
    have hat : w.cell? a = some (.int .u8 b) := by have := hA 0 (by simp); simpa [Addr.add] using this
    have h01 := hb b (by simp)
    have hn' : n = r.length + 1 := by simpa using hn.symm
    by_cases h0 : 192 ≤ b
    · exact read_hi b r a n c w hn' hc hat h0 h01.2
    by_cases h1 : b < 128
    · exact read_lo b r a n c w hn' hc hat h01.1 h1
    by_cases h4 : b % 8 = 4
    · by_cases h5 : n < 6
      · exact read_short6 b r a n c w hn' hc hat (by omega) (by omega) h4 h5
      · by_cases h6 : r.getD 0 0 = 36
        · exact read_mem6 b r a n c w hn' hc hat hA hb (by omega) (by omega) h4 (by omega) h6
        · exact read_bad6 b r a n c w hn' hc hat hA (by omega) (by omega) h4 (by omega) h6
    · by_cases h5 : n < 5
      · exact read_short5 b r a n c w hn' hc hat (by omega) (by omega) h4 h5
      · exact read_mem5 b r a n c w hn' hc hat hA hb (by omega) (by omega) h4 (by omega)
theorem rread_any (l : List Int) (n c B : Nat) (A : Option Addr) (w : World) (hl : Reads w B 1 A n (l.map (Value.int .u8))) (hb : IsBytes l) (hc : n ≤ c) :
    Calls Try.prog 23 #[.slice A n c] w fun e w' => e = .returned (rdV l) ∧ ∃ k, w.drewN k = w' := by
  have hn : l.length = n := by have := hl.1; simpa using this
  cases l with
  | nil => simp at hn; subst hn; exact rread_nil A c w
  | cons b r =>
    obtain ⟨a, rfl, _, _⟩ := hl.2 (by simp at hn; omega)
    have hA := at_of_reads hl (by simp at hn; omega)
    have hat : w.cell? a = some (.int .u8 b) := by have := hA 0 (by simp); simpa [Addr.add] using this
    have h01 := hb b (by simp)
    have hn' : n = r.length + 1 := by simpa using hn.symm
    by_cases h0 : 192 ≤ b
    · exact rread_hi b r a n c w hn' hc hat h0 h01.2
    by_cases h1 : b < 128
    · exact rread_lo b r a n c w hn' hc hat h01.1 h1
    by_cases h4 : b % 8 = 4
    · by_cases h2 : n < 2
      · exact rread_short1 b r a n c w hn' hc hat (by omega) (by omega) h4 h2
      · by_cases h6 : r.getD 0 0 = 36
        · by_cases h5 : n < 6
          · exact rread_short6 b r a n c w hn' hc hat hA (by omega) (by omega) h4 (by omega) h5 h6
          · exact rread_mem6 b r a n c w hn' hc hat hA hb (by omega) (by omega) h4 (by omega) h6
        · exact rread_bad6 b r a n c w hn' hc hat hA (by omega) (by omega) h4 (by omega) h6
    · by_cases h5 : n < 5
      · exact rread_short5 b r a n c w hn' hc hat (by omega) (by omega) h4 h5
      · exact rread_mem5 b r a n c w hn' hc hat hA hb (by omega) (by omega) h4 (by omega)
end Go.Proofs.Ytladeiighbbioaa
