/-
  Contracts of Op's laws 4, 6, 7, 8 and of what they do; of the put at the end. Conditions: those written in each statement.
-/
import Derived.Test.YtepagfkkjlbipaaGreatKal
import Derived.BigRegion
import Derived.RegionTactic
namespace Go.Proofs.YtepagfkkjlbipaaGreat
open Go.RowKit
set_option linter.unusedVariables false
set_option linter.unusedSimpArgs false
set_option maxRecDepth 100000
theorem putN_i64 {p : PS} (h : WfP p) (t : TD) : I64 (putN p t).1 := by
 unfold I64
 have hf := h.few
 rcases putP_cases p t with ⟨e, ⟨_, q⟩ | ⟨ho, i, hi, _, q⟩ | ⟨_, _, _, q⟩⟩ | ⟨ho, _, _, _, e, q⟩
 ·rw [q]; dsimp only; omega
 ·rw [q]
  have := (List.getElem?_eq_some_iff.1 hi).1
  dsimp only
  omega
 ·rw [q]; dsimp only; omega
 ·rw [q]; dsimp only; omega
theorem bindR_ok {r : RS} {k : PS → Int → Option RS} {s : RS} (h : bindR r k = some s) (e : r.2.2 = 0) : k r.1 r.2.1 = some s := by unfold bindR at h; rw [if_pos e] at h; exact h
theorem bindR_no {r : RS} {k : PS → Int → Option RS} {s : RS} (h : bindR r k = some s) (e : r.2.2 ≠ 0) : s = (r.1, 0, r.2.2) := by unfold bindR at h; rw [if_neg e] at h; injection h with h; exact h.symm
/-- Op's contract, where the fuel reaches. -/
def OpC (base g f : Nat) : Prop := ∀ (op x a b : Int) (ha : I64 a) (hb : I64 b) (F : Nat → Prop) (p : PS) (r : RS) (hO : opF f p op x a b = some r) (W : World) (h : PoolAt W base F g p) (hbase : base ≤ W.heap.size),
 Calls Tryz.prog 74 #[.pointer (some ⟨g, 0, none⟩), .int .i8 op, .int .i8 x, .int .i64 a, .int .i64 b] W (RetP base g F W r)
section
variable {base f g : Nat} {op x a b c d : Int} {lf rt tn sh : Bool} {b5 b6 b7 b8 b9 b15 b17 b18 b19 b20 b21 b22 b23 b24 : Nat} {F : Nat → Prop} {W : World} {p : PS} {r : RS}
set_option maxHeartbeats 4000000 in
theorem op4_do (hE : OpE g op x a b c d lf rt tn sh b5 b6 b7 b8 b9 b15 b17 b18 b19 b20 b21 b22 b23 b24 F W) (hp : PoolAt W base F g p) (hbase : base ≤ W.heap.size) (hIH : OpC base g f) (ha : I64 a) (hr : bindR (putR p (constT 0)) (fun q z => opF f q 1 x z a) = some r) :
  Calls Tryz.prog 123 #[.pointer (some ⟨b5, 0, none⟩), .pointer (some ⟨b7, 0, none⟩), .pointer (some ⟨b8, 0, none⟩)] W (RetP base g F W r) := by
 have HR := hide hr
 have HIH := hide hIH
 have HB := hide hbase
 have HZI := hide (putN_i64 hp.wf (constT 0))
 have HU := hide (show U64 0 by unfold U64; omega)
 have HE := hide hE
 have HP := hide hp
 have c5 := hE.e5.1.cell 0
 simp at c5
 clear hE hp hr hIH hbase
 go_enter Tryz.func123, Tryz.ntmps123
 go_wp2_with fail
 refine (const_any _ HU.out _ HP.out HB.out).mono ?_
 rintro e w1 ⟨rfl, F1, hp1⟩
 have HP1 := hide hp1
 clear hp1
 have HE1 := hide (HE.out.pg HP1.out)
 have hb1 := Nat.le_trans HB.out HP1.out.size
 obtain ⟨q, hq⟩ : ∃ q, putR p (constT 0) = q := ⟨_, rfl⟩
 rw [show (putN p (constT 0)).1 = q.2.1 by rw [← hq]; rfl] at HZI
 rw [hq] at HR HP1 ⊢
 obtain ⟨p1, z, er⟩ := q
 dsimp only at HZI HP1 ⊢
 clear hq c5
 have c5 := HE1.out.e5.1.cell 0
 have c7 := HE1.out.e7.1.cell 0
 have c8 := HE1.out.e8.1.cell 0
 simp at c5 c7 c8
 cases her : (er == 0)
 ·have he := HR.out
  have he2 := bindR_no he (by simpa using her)
  subst he2
  clear he
  go_wp2
  go_ret2
  exact ⟨rfl, F1, HP1.out⟩
 ·have hrec := bindR_ok HR.out (show er = 0 by simpa using her)
  dsimp only at hrec
  have HREC := hide hrec
  clear hrec
  go_wp2_with fail
  refine (HIH.out 1 x z a HZI.out ha F1 p1 r HREC.out _ HP1.out.pool hb1).mono ?_
  rintro e w2 ⟨rfl, hr2⟩
  have HR2 := hide hr2
  clear hr2
  go_wp2
  go_ret2
  exact RetP.from HP1.out ⟨rfl, HR2.out⟩
set_option maxHeartbeats 4000000 in
theorem op6_do (hE : OpE g op x a b c d lf rt tn sh b5 b6 b7 b8 b9 b15 b17 b18 b19 b20 b21 b22 b23 b24 F W) (hp : PoolAt W base F g p) (hbase : base ≤ W.heap.size) (hIH : OpC base g f) (ha : I64 a) (hr : bindR (putR p (constT (cutV x (IntKind.u64.wrap (-d))))) (fun q z => opF f q 0 x a z) = some r) :
  Calls Tryz.prog 126 #[.pointer (some ⟨b5, 0, none⟩), .pointer (some ⟨b19, 0, none⟩), .pointer (some ⟨b7, 0, none⟩), .pointer (some ⟨b8, 0, none⟩)] W (RetP base g F W r) := by
 have HR := hide hr
 have HIH := hide hIH
 have HB := hide hbase
 have HZI := hide (putN_i64 hp.wf (constT (cutV x (IntKind.u64.wrap (-d)))))
 have HU := hide (show U64 (cutV x (IntKind.u64.wrap (-d))) by exact cutV_u64 (by unfold U64; rw [IntKind.wrap_u64]; omega))
 have HE := hide hE
 have HP := hide hp
 have c5 := hE.e5.1.cell 0
 have c19 := hE.e19.1.cell 0
 have c7 := hE.e7.1.cell 0
 simp at c5 c19 c7
 clear hE hp hr hIH hbase
 go_enter Tryz.func126, Tryz.ntmps126
 have hbd : base ≤ W.drew.heap.size := HB.out
 go_wp2
 go_region_with (first
  | (go_at_call 97; refine (cut_any _ _ _).mono ?_; rintro e w' ⟨rfl, rfl⟩)
  | (go_at_call 39; refine (const_any _ HU.out _ HP.out.drew hbd).mono ?_; rintro e w1 ⟨rfl, hq1⟩))

 all_goals
  obtain ⟨F1, hp1⟩ := hq1
  have HP1 := hide ((PG.of_below HP.out ((Below.refl _ _).drew)).trans hp1)
  clear hp1
  have HE1 := hide (HE.out.pg HP1.out)
  have hb1 := Nat.le_trans HB.out HP1.out.size
  obtain ⟨q, hq⟩ : ∃ q, putR p (constT (cutV x (IntKind.u64.wrap (-d)))) = q := ⟨_, rfl⟩
  rw [show (putN p (constT (cutV x (IntKind.u64.wrap (-d))))).1 = q.2.1 by rw [← hq]; rfl] at HZI
  rw [hq] at HR HP1 ⊢
  obtain ⟨p1, z, er⟩ := q
  dsimp only at HZI HP1 ⊢
  clear hq c5 c19 c7
  have c5 := HE1.out.e5.1.cell 0
  have c7 := HE1.out.e7.1.cell 0
  have c8 := HE1.out.e8.1.cell 0
  simp at c5 c7 c8
  cases her : (er == 0)
  ·have he := HR.out
   have he2 := bindR_no he (by simpa using her)
   subst he2
   clear he
   go_wp2
   go_ret2
   exact ⟨rfl, F1, HP1.out⟩
  ·have hrec := bindR_ok HR.out (show er = 0 by simpa using her)
   dsimp only at hrec
   have HREC := hide hrec
   clear hrec
   go_wp2_with fail
   refine (HIH.out 0 x a z ha HZI.out F1 p1 r HREC.out _ HP1.out.pool hb1).mono ?_
   rintro e w2 ⟨rfl, hr2⟩
   have HR2 := hide hr2
   clear hr2
   go_wp2
   go_ret2
   exact RetP.from HP1.out ⟨rfl, HR2.out⟩
set_option maxHeartbeats 4000000 in
theorem law4_no (hE : OpE g op x a b c d lf rt tn sh b5 b6 b7 b8 b9 b15 b17 b18 b19 b20 b21 b22 b23 b24 F W) (hp : PoolAt W base F g p) (hf : (op == 8) = false) :
  Calls Tryz.prog 122 #[.pointer (some ⟨b6, 0, none⟩), .pointer (some ⟨b5, 0, none⟩), .pointer (some ⟨b7, 0, none⟩), .pointer (some ⟨b8, 0, none⟩)] W (fun e w' => e = .returned (.tuple #[.int .i64 0, .bool false, .int .i64 0]) ∧ Below W.heap.size W w') := by
 have c6 := hE.e6.1.cell 0
 simp at c6
 clear hE hp
 go_enter Tryz.func122, Tryz.ntmps122
 go_wp2_with fail
 refine (then_no _ _).mono ?_
 rintro e w1 ⟨rfl, rfl⟩
 go_wp2
 exact bodyPost_ret (v := .tuple #[.int .i64 0, .bool false, .int .i64 0]) (by simp [results, Tryz.results122, go_sem]) rfl ⟨rfl, Below.refl _ _⟩
set_option maxHeartbeats 4000000 in
theorem law4_yes (hE : OpE g op x a b c d lf rt tn sh b5 b6 b7 b8 b9 b15 b17 b18 b19 b20 b21 b22 b23 b24 F W) (hp : PoolAt W base F g p) (hbase : base ≤ W.heap.size) (hIH : OpC base g f) (ha : I64 a) (hr : bindR (putR p (constT 0)) (fun q z => opF f q 1 x z a) = some r) (hf : (op == 8) = true) :
  Calls Tryz.prog 122 #[.pointer (some ⟨b6, 0, none⟩), .pointer (some ⟨b5, 0, none⟩), .pointer (some ⟨b7, 0, none⟩), .pointer (some ⟨b8, 0, none⟩)] W (fun e w' => ∃ n m, e = .returned (.tuple #[.int .i64 n, .bool true, .int .i64 m]) ∧ RR base g F W r n m w') := by
 have H := hide (op4_do hE hp hbase hIH ha hr : Calls Tryz.prog 123 #[.pointer (some ⟨b5, 0, none⟩), .pointer (some ⟨b7, 0, none⟩), .pointer (some ⟨b8, 0, none⟩)] W (RetP base g F W r))
 have c6 := hE.e6.1.cell 0
 simp at c6
 clear hE hp
 go_enter Tryz.func122, Tryz.ntmps122
 go_wp2_with fail
 refine (then_yes 123 _ _ (RR base g F W r) enters4_1 (H.out.mono fun e w' q => RR.of q)).mono ?_
 rintro e w1 ⟨n, m, rfl, hr⟩
 have HRR := hide hr
 clear hr
 go_wp2
 exact bodyPost_ret (v := .tuple #[.int .i64 n, .bool true, .int .i64 m]) (by simp [results, Tryz.results122, go_sem]) rfl ⟨n, m, rfl, HRR.out⟩
set_option maxHeartbeats 4000000 in
theorem law6_no (hE : OpE g op x a b c d lf rt tn sh b5 b6 b7 b8 b9 b15 b17 b18 b19 b20 b21 b22 b23 b24 F W) (hp : PoolAt W base F g p) (hf : (op == 1 && rt) = false) :
  Calls Tryz.prog 125 #[.pointer (some ⟨b6, 0, none⟩), .pointer (some ⟨b20, 0, none⟩), .pointer (some ⟨b5, 0, none⟩), .pointer (some ⟨b19, 0, none⟩), .pointer (some ⟨b7, 0, none⟩), .pointer (some ⟨b8, 0, none⟩)] W (fun e w' => e = .returned (.tuple #[.int .i64 0, .bool false, .int .i64 0]) ∧ Below W.heap.size W w') := by
 have c6 := hE.e6.1.cell 0
 have c20 := hE.e20.1.cell 0
 simp at c6 c20
 clear hE hp
 cases h1 : (op == 1)
 ·clear hf
  go_enter Tryz.func125, Tryz.ntmps125
  go_wp2_with fail
  refine (then_no _ _).mono ?_
  rintro e w1 ⟨rfl, rfl⟩
  go_wp2
  exact bodyPost_ret (v := .tuple #[.int .i64 0, .bool false, .int .i64 0]) (by simp [results, Tryz.results125, go_sem]) rfl ⟨rfl, Below.refl _ _⟩
 ·obtain rfl : rt = false := by rw [h1] at hf; simpa using hf
  clear hf
  go_enter Tryz.func125, Tryz.ntmps125
  go_wp2_with fail
  refine (then_no _ _).mono ?_
  rintro e w1 ⟨rfl, rfl⟩
  go_wp2
  exact bodyPost_ret (v := .tuple #[.int .i64 0, .bool false, .int .i64 0]) (by simp [results, Tryz.results125, go_sem]) rfl ⟨rfl, Below.refl _ _⟩
set_option maxHeartbeats 4000000 in
theorem law6_yes (hE : OpE g op x a b c d lf rt tn sh b5 b6 b7 b8 b9 b15 b17 b18 b19 b20 b21 b22 b23 b24 F W) (hp : PoolAt W base F g p) (hbase : base ≤ W.heap.size) (hIH : OpC base g f) (ha : I64 a) (hr : bindR (putR p (constT (cutV x (IntKind.u64.wrap (-d))))) (fun q z => opF f q 0 x a z) = some r) (hf : (op == 1 && rt) = true) :
  Calls Tryz.prog 125 #[.pointer (some ⟨b6, 0, none⟩), .pointer (some ⟨b20, 0, none⟩), .pointer (some ⟨b5, 0, none⟩), .pointer (some ⟨b19, 0, none⟩), .pointer (some ⟨b7, 0, none⟩), .pointer (some ⟨b8, 0, none⟩)] W (fun e w' => ∃ n m, e = .returned (.tuple #[.int .i64 n, .bool true, .int .i64 m]) ∧ RR base g F W r n m w') := by
 have H := hide (op6_do hE hp hbase hIH ha hr : Calls Tryz.prog 126 #[.pointer (some ⟨b5, 0, none⟩), .pointer (some ⟨b19, 0, none⟩), .pointer (some ⟨b7, 0, none⟩), .pointer (some ⟨b8, 0, none⟩)] W (RetP base g F W r))
 have c6 := hE.e6.1.cell 0
 have c20 := hE.e20.1.cell 0
 simp at c6 c20
 clear hE hp
 obtain rfl : rt = true := by simp at hf; exact hf.2
 have h1 : (op == 1) = true := by simpa using hf
 clear hf
 go_enter Tryz.func125, Tryz.ntmps125
 go_wp2_with fail
 refine (then_yes 126 _ _ (RR base g F W r) enters6_1 (H.out.mono fun e w' q => RR.of q)).mono ?_
 rintro e w1 ⟨n, m, rfl, hr⟩
 have HRR := hide hr
 clear hr
 go_wp2
 exact bodyPost_ret (v := .tuple #[.int .i64 n, .bool true, .int .i64 m]) (by simp [results, Tryz.results125, go_sem]) rfl ⟨n, m, rfl, HRR.out⟩
set_option maxHeartbeats 2000000 in
theorem op7_do (hE : OpE g op x a b c d lf rt tn sh b5 b6 b7 b8 b9 b15 b17 b18 b19 b20 b21 b22 b23 b24 F W) (hp : PoolAt W base F g p) (hbase : base ≤ W.heap.size) (hIH : OpC base g f) (ha : I64 a) (hb : I64 b) (hr : opF f p op x b a = some r) :
  Calls Tryz.prog 128 #[.pointer (some ⟨b5, 0, none⟩), .pointer (some ⟨b6, 0, none⟩), .pointer (some ⟨b7, 0, none⟩), .pointer (some ⟨b9, 0, none⟩), .pointer (some ⟨b8, 0, none⟩)] W (RetP base g F W r) := by
 have HC := hide (hIH op x b a hb ha F p r hr W hp hbase)
 have c5 := hE.e5.1.cell 0
 have c6 := hE.e6.1.cell 0
 have c7 := hE.e7.1.cell 0
 have c8 := hE.e8.1.cell 0
 have c9 := hE.e9.1.cell 0
 simp at c5 c6 c7 c8 c9
 clear hE hp hIH hr hbase
 go_enter Tryz.func128, Tryz.ntmps128
 go_wp2_with fail
 refine HC.out.mono ?_
 rintro e w1 ⟨rfl, hr⟩
 have HR := hide hr
 clear hr
 go_wp2
 go_ret2
 exact ⟨rfl, HR.out⟩
set_option maxHeartbeats 4000000 in
theorem law7_no (hE : OpE g op x a b c d lf rt tn sh b5 b6 b7 b8 b9 b15 b17 b18 b19 b20 b21 b22 b23 b24 F W) (hp : PoolAt W base F g p) (hf : (tn && (lf || (!rt && decide (b < a)))) = false) :
  Calls Tryz.prog 127 #[.pointer (some ⟨b23, 0, none⟩), .pointer (some ⟨b18, 0, none⟩), .pointer (some ⟨b20, 0, none⟩), .pointer (some ⟨b9, 0, none⟩), .pointer (some ⟨b8, 0, none⟩), .pointer (some ⟨b5, 0, none⟩), .pointer (some ⟨b6, 0, none⟩), .pointer (some ⟨b7, 0, none⟩)] W (fun e w' => e = .returned (.tuple #[.int .i64 0, .bool false, .int .i64 0]) ∧ Below W.heap.size W w') := by
 have c23 := hE.e23.1.cell 0
 have c18 := hE.e18.1.cell 0
 have c20 := hE.e20.1.cell 0
 have c9 := hE.e9.1.cell 0
 have c8 := hE.e8.1.cell 0
 simp at c23 c18 c20 c9 c8
 clear hE hp
 cases tn
 ·clear hf
  go_enter Tryz.func127, Tryz.ntmps127
  go_wp2_with fail
  refine (then_no _ _).mono ?_
  rintro e w1 ⟨rfl, rfl⟩
  go_wp2
  exact bodyPost_ret (v := .tuple #[.int .i64 0, .bool false, .int .i64 0]) (by simp [results, Tryz.results127, go_sem]) rfl ⟨rfl, Below.refl _ _⟩
 ·cases lf
  ·cases rt
   ·have hd : decide (b < a) = false := by simpa using hf
    clear hf
    go_enter Tryz.func127, Tryz.ntmps127
    go_wp2_with fail
    refine (then_no _ _).mono ?_
    rintro e w1 ⟨rfl, rfl⟩
    go_wp2
    exact bodyPost_ret (v := .tuple #[.int .i64 0, .bool false, .int .i64 0]) (by simp [results, Tryz.results127, go_sem]) rfl ⟨rfl, Below.refl _ _⟩
   ·clear hf
    go_enter Tryz.func127, Tryz.ntmps127
    go_wp2_with fail
    refine (then_no _ _).mono ?_
    rintro e w1 ⟨rfl, rfl⟩
    go_wp2
    exact bodyPost_ret (v := .tuple #[.int .i64 0, .bool false, .int .i64 0]) (by simp [results, Tryz.results127, go_sem]) rfl ⟨rfl, Below.refl _ _⟩
  ·simp at hf
set_option maxHeartbeats 4000000 in
theorem law7_yes (hE : OpE g op x a b c d lf rt tn sh b5 b6 b7 b8 b9 b15 b17 b18 b19 b20 b21 b22 b23 b24 F W) (hp : PoolAt W base F g p) (hbase : base ≤ W.heap.size) (hIH : OpC base g f) (ha : I64 a) (hb : I64 b) (hr : opF f p op x b a = some r) (hf : (tn && (lf || (!rt && decide (b < a)))) = true) :
  Calls Tryz.prog 127 #[.pointer (some ⟨b23, 0, none⟩), .pointer (some ⟨b18, 0, none⟩), .pointer (some ⟨b20, 0, none⟩), .pointer (some ⟨b9, 0, none⟩), .pointer (some ⟨b8, 0, none⟩), .pointer (some ⟨b5, 0, none⟩), .pointer (some ⟨b6, 0, none⟩), .pointer (some ⟨b7, 0, none⟩)] W (fun e w' => ∃ n m, e = .returned (.tuple #[.int .i64 n, .bool true, .int .i64 m]) ∧ RR base g F W r n m w') := by
 have H := hide (op7_do hE hp hbase hIH ha hb hr : Calls Tryz.prog 128 #[.pointer (some ⟨b5, 0, none⟩), .pointer (some ⟨b6, 0, none⟩), .pointer (some ⟨b7, 0, none⟩), .pointer (some ⟨b9, 0, none⟩), .pointer (some ⟨b8, 0, none⟩)] W (RetP base g F W r))
 have c23 := hE.e23.1.cell 0
 have c18 := hE.e18.1.cell 0
 have c20 := hE.e20.1.cell 0
 have c9 := hE.e9.1.cell 0
 have c8 := hE.e8.1.cell 0
 simp at c23 c18 c20 c9 c8
 clear hE hp
 cases tn
 ·simp at hf
 ·cases lf
  ·cases rt
   ·have hd : decide (b < a) = true := by simpa using hf
    clear hf
    go_enter Tryz.func127, Tryz.ntmps127
    go_wp2_with fail
    refine (then_yes 128 _ _ (RR base g F W r) enters7_1 (H.out.mono fun e w' q => RR.of q)).mono ?_
    rintro e w1 ⟨n, m, rfl, hr⟩
    have HRR := hide hr
    clear hr
    go_wp2
    exact bodyPost_ret (v := .tuple #[.int .i64 n, .bool true, .int .i64 m]) (by simp [results, Tryz.results127, go_sem]) rfl ⟨n, m, rfl, HRR.out⟩
   ·simp at hf
  ·clear hf
   go_enter Tryz.func127, Tryz.ntmps127
   go_wp2_with fail
   refine (then_yes 128 _ _ (RR base g F W r) enters7_1 (H.out.mono fun e w' q => RR.of q)).mono ?_
   rintro e w1 ⟨n, m, rfl, hr⟩
   have HRR := hide hr
   clear hr
   go_wp2
   exact bodyPost_ret (v := .tuple #[.int .i64 n, .bool true, .int .i64 m]) (by simp [results, Tryz.results127, go_sem]) rfl ⟨n, m, rfl, HRR.out⟩
def opT (op x a b : Int) : TD := ⟨2, op, x, 0, a, b, 0⟩
theorem build_op (op x a b : Int) (w : World) : (Instr.build 147 #[(0, .int .i8 2), (1, .int .i8 op), (2, .int .i8 x), (4, .int .i64 a), (5, .int .i64 b)]).run Tryz.prog w = .ok (termV (opT op x a b)) w := run_build w 147 _ _ (by kernel_rfl)
theorem opT_wf {op x a b : Int} (ho : I8 op) (hx : I8 x) (ha : I64 a) (hb : I64 b) : (opT op x a b).wf := by unfold TD.wf I8 U64 I64 opT; unfold I8 at ho hx; unfold I64 at ha hb; dsimp only; exact ⟨by omega, ho, hx, by omega, ha, hb, by omega⟩
set_option maxHeartbeats 2000000 in
theorem op13_any (hE : OpE g op x a b c d lf rt tn sh b5 b6 b7 b8 b9 b15 b17 b18 b19 b20 b21 b22 b23 b24 F W) (hp : PoolAt W base F g p) (hbase : base ≤ W.heap.size) (ho : I8 op) (hx : I8 x) (ha : I64 a) (hb : I64 b) :
  Calls Tryz.prog 136 #[.pointer (some ⟨b5, 0, none⟩), .pointer (some ⟨b6, 0, none⟩), .pointer (some ⟨b7, 0, none⟩), .pointer (some ⟨b8, 0, none⟩), .pointer (some ⟨b9, 0, none⟩)] W (RetP base g F W (putR p (opT op x a b))) := by
 have HC := hide (put_r _ (opT_wf ho hx ha hb) W hp hbase)
 have q := fun (w : World) => build_op op x a b w
 have c5 := hE.e5.1.cell 0
 have c6 := hE.e6.1.cell 0
 have c7 := hE.e7.1.cell 0
 have c8 := hE.e8.1.cell 0
 have c9 := hE.e9.1.cell 0
 simp at c5 c6 c7 c8 c9
 clear hE hp hbase
 go_enter Tryz.func136, Tryz.ntmps136
 go_wp2_with fail
 refine HC.out.mono ?_
 rintro e w1 ⟨rfl, hr⟩
 have HR := hide hr
 clear hr
 go_wp2
 go_ret2
 exact ⟨rfl, HR.out⟩
end
end Go.Proofs.YtepagfkkjlbipaaGreat
