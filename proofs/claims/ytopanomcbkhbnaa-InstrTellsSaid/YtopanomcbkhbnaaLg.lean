/-
  The walk of InstrTells: it answers true. Conditions: those written in each statement.
-/
import Derived.Test.YtopanomcbkhbnaaSh
import Derived.Test.YtopanomcbkhbnaaIi
import Derived.Test.YtopanomcbkhbnaaIl
import Derived.Test.YtopanomcbkhbnaaLb
import Derived.Lib.QuietBelow
namespace Go.Proofs.Ytopanomcbkhbnaa
open Go.RowKit Go.Sort
set_option linter.unusedVariables false
set_option linter.unusedSimpArgs false
/-- The boxes of the law, its programs' instructions. -/
structure TF (x : ID) (c : Int) (A : Option Addr) (n cap : Nat) (l : List ID) (d : Int) (A2 : Option Addr) (n2 cap2 : Nat) (m : List ID) (w W : World) : Prop where
  below : Below w.heap.size w W
  bx : Blk W w.heap.size 32 x.cells.toArray
  bp : Blk W (w.heap.size + 1) 24 #[.int .i64 c, .slice A n cap]
  bq : Blk W (w.heap.size + 2) 24 #[.int .i64 d, .slice A2 n2 cap2]
  ins : InsAt W W.heap.size A n l
  ins2 : InsAt W W.heap.size A2 n2 m
section
variable {x : ID} {c d : Int} {A A2 : Option Addr} {n cap n2 cap2 : Nat} {l m : List ID} {w W V : World}
theorem TF.lt (h : TF x c A n cap l d A2 n2 cap2 m w W) : w.heap.size + 2 < W.heap.size := h.bq.lt
theorem TF.step (h : TF x c A n cap l d A2 n2 cap2 m w W) (hb : Below W.heap.size W V) : TF x c A n cap l d A2 n2 cap2 m w V :=
  have hl := h.lt
  ⟨h.below.trans (hb.mono (by omega)), h.bx.below hb h.bx.lt, h.bp.below hb h.bp.lt, h.bq.below hb h.bq.lt, h.ins.up hb hb.size, h.ins2.up hb hb.size⟩
theorem TF.new (hh : InsAt w w.heap.size A n l) (hh2 : InsAt w w.heap.size A2 n2 m) :
    TF x c A n cap l d A2 n2 cap2 m w (((w.alloc (.cells x.cells.toArray 32)).alloc (.cells #[.int .i64 c, .slice A n cap] 24)).alloc (.cells #[.int .i64 d, .slice A2 n2 cap2] 24)) := by
  have hb : Below w.heap.size w (((w.alloc (.cells x.cells.toArray 32)).alloc (.cells #[.int .i64 c, .slice A n cap] 24)).alloc (.cells #[.int .i64 d, .slice A2 n2 cap2] 24)) :=
    (((Below.refl _ _).alloc (Nat.le_refl _) _).alloc (by simp) _).alloc (by simp; omega) _
  refine ⟨hb, ?_, ?_, ?_, hh.up hb hb.size, hh2.up hb hb.size⟩
  · exact ((Blk.new w _ _).alloc _).alloc _
  · have := (Blk.new (w.alloc (.cells x.cells.toArray 32)) 24 #[.int .i64 c, .slice A n cap]).alloc (.cells #[.int .i64 d, .slice A2 n2 cap2] 24)
    simpa using this
  · have := Blk.new ((w.alloc (.cells x.cells.toArray 32)).alloc (.cells #[.int .i64 c, .slice A n cap] 24)) 24 #[.int .i64 d, .slice A2 n2 cap2]
    simpa using this
theorem TF.re (h : TF x c A n cap l d A2 n2 cap2 m w W) (k : Nat) (os : Array Obj) : TF x c A n cap l d A2 n2 cap2 m w (grow (redrawn W k) os) := h.step (below_regrown W k os)
end
theorem conv_re {W : World} {A : Option Addr} {n c : Nat} {l : List Int} (h : Reads W W.heap.size 1 A n (l.map (Value.int .u8))) : ∃ s, Hid (s = strOfNums l) ∧ ∀ (k : Nat) (os : Array Obj), (convert 36 9 (.slice A n c)).run Try.prog (grow (redrawn W k) os) = .ok (.string s) (grow (redrawn W k) os) :=
  ⟨_, hide rfl, fun k os => run_convert_reads _ _ _ _ Try.underlying36 Try.underlying5 Try.underlying9 _ _ _ _ _ (h.keep fun p hp => (below_regrown W k os).cell hp)⟩
set_option maxRecDepth 100000 in
set_option maxHeartbeats 8000000 in
theorem tells_walk (x : ID) (c : Int) (A : Option Addr) (n cap : Nat) (l : List ID) (d : Int) (A2 : Option Addr) (n2 cap2 : Nat) (m : List ID) (i num : Int) (w : World) (hx : x.wf) (hh : InsAt w w.heap.size A n l) (hc : n ≤ cap) (hm : n < 9223372036854775808) (hh2 : InsAt w w.heap.size A2 n2 m) (hc2 : n2 ≤ cap2) (hm2 : n2 < 9223372036854775808) :
    Calls Try.prog 5 #[.agg x.cells.toArray, .agg #[.int .i64 c, .slice A n cap], .agg #[.int .i64 d, .slice A2 n2 cap2], .int .i64 i, .int .i64 num] w fun e w' => e = .returned (.bool true) ∧ Below w.heap.size w w' := by
  have HF := hide (TF.new (x := x) (c := c) (d := d) (cap := cap) (cap2 := cap2) hh hh2)
  have HX := hide hx
  clear hx hh hh2
  go_enter Try.func5, Try.ntmps5
  go_wp2_with fail
  refine (great_any c A n cap _ hm).mono ?_
  rintro e w1 ⟨rfl, hb⟩
  replace HF := hide (HF.out.step hb)
  clear hb
  have d0 : w1.cell? ⟨w.heap.size + 2, 0, none⟩ = some (.int .i64 d) := HF.out.bq.cell 0
  have d1 : w1.cell? ⟨w.heap.size + 2, 1, none⟩ = some (.slice A2 n2 cap2) := HF.out.bq.cell 1
  cases hg : decide (100 < n)
  · clear hg
    go_wp2_with fail
    refine (great_any d A2 n2 cap2 _ hm2).mono ?_
    rintro e w2 ⟨rfl, hb⟩
    replace HF := hide (HF.out.step hb)
    clear hb d0 d1
    cases hg2 : decide (100 < n2)
    · clear hg2
      have HLX := hide (fun (W : World) (h : TF x c A n cap l d A2 n2 cap2 m w W) => (blk_list h.bx : ∀ j u, x.cells[j]? = some u → W.cell? ((⟨w.heap.size, 0, none⟩ : Addr).add j) = some u))
      go_wp2_with (first
        | (refine wpList_load_at rfl 32 (.tmp 5) rfl ⟨w.heap.size, 0, none⟩ rfl x.cells _ (HLX.out _ HF.out) Try.underlying32 rfl sizI ?_)
        | fail)
      refine (bytes_any x _ HX.out).mono ?_
      rintro e w3 ⟨A3, c3, rfl, hc3, hr3, hb⟩
      replace HF := hide (HF.out.step hb)
      obtain ⟨exv, hex⟩ : ∃ v, insE x = v := ⟨_, rfl⟩
      rw [hex]
      have HEX := hide hex
      have HR3 := hide hr3
      clear hb hr3 hex
      go_wp2_with (first
        | (refine wpList_load_at rfl 32 (.tmp 5) rfl ⟨w.heap.size, 0, none⟩ rfl x.cells _ (HLX.out _ HF.out) Try.underlying32 rfl sizI ?_)
        | fail)
      refine (rbytes_any x _ HX.out).mono ?_
      rintro e w4 ⟨A4, c4, rfl, hc4, hr4, hb⟩
      rw [HEX.out]
      replace HF := hide (HF.out.step hb)
      replace HR3 := hide ((HR3.out.below hb).more hb.size)
      obtain ⟨z, hz, cv1⟩ := conv_re HR3.out (c := c3)
      obtain ⟨z2, hz2, cv2⟩ := conv_re hr4 (c := c4)
      obtain rfl : z = z2 := by rw [hz.out, hz2.out]
      obtain ⟨mb, hmb⟩ : ∃ b, mayB x = b := ⟨_, rfl⟩
      have HM1 := hide (fun W => by have := may_any x W HX.out; unfold BoolP at this; rw [hmb] at this; exact this : ∀ W, Calls Try.prog 12 #[.agg x.cells.toArray] W fun e w' => e = .returned (.bool mb) ∧ Below W.heap.size W w')
      have HM2 := hide (fun W => by have := rmay_any x W HX.out; unfold BoolP at this; rw [hmb] at this; exact this : ∀ W, Calls Try.prog 17 #[.agg x.cells.toArray] W fun e w' => e = .returned (.bool mb) ∧ Below W.heap.size W w')
      have HLC := hide (fun (W' : World) (h : ∃ p : Regrown, W' = grow (redrawn w4 p.d) p.os) => (by
        obtain ⟨p, rfl⟩ := h
        exact HLX.out _ (HF.out.re p.d p.os) : ∀ j u, x.cells[j]? = some u → W'.cell? ((⟨w.heap.size, 0, none⟩ : Addr).add j) = some u))
      clear hb hr4 hz hz2 hmb HR3
      go_wp2_with fail
      refine wp_region_quiet_below (by kernel_rfl) (by kernel_rfl) ?_
      repeat (first
        | (refine wpQuiet_loadC (by rfl) 32 (.tmp 5) rfl ⟨w.heap.size, 0, none⟩ (by rfl) x.cells _ HLC.out Try.underlying32 rfl sizI ?_; go_simp)
        | go_big_quiet_step ((first
            | (go_at_call 12; exact Calls.regrown_of (HM1.out _))
            | (go_at_call 17; exact Calls.regrown_of (HM2.out _)))))
      refine wpQuiet_nil ?_
      first
        | (intro wq hwq; obtain ⟨pq, rfl⟩ := hwq)
        | intro pq
      replace HF := hide (HF.out.re pq.d pq.os)
      clear cv1 cv2 HLC HM1 HM2
      generalize grow (redrawn w4 pq.d) pq.os = w5 at *
      go_wp2_with (first
        | (refine wpList_load_at rfl 32 (.tmp 5) rfl ⟨w.heap.size, 0, none⟩ rfl x.cells _ (HLX.out _ HF.out) Try.underlying32 rfl sizI ?_)
        | fail)
      refine (target_any i x _).mono ?_
      rintro e w6 ⟨rfl, hb⟩
      replace HF := hide (HF.out.step hb)
      obtain ⟨tb, htb⟩ : ∃ b, tgtB i x = b := ⟨_, rfl⟩
      obtain ⟨tn, htn⟩ : ∃ b, tgtN i x = b := ⟨_, rfl⟩
      rw [htb, htn]
      have HTB := hide htb
      have HTN := hide htn
      clear hb htb htn
      go_wp2_with (first
        | (refine wpList_load_at rfl 32 (.tmp 5) rfl ⟨w.heap.size, 0, none⟩ rfl x.cells _ (HLX.out _ HF.out) Try.underlying32 rfl sizI ?_)
        | fail)
      refine (rtarget_any i x _).mono ?_
      rintro e w7 ⟨rfl, hb⟩
      rw [HTB.out, HTN.out]
      replace HF := hide (HF.out.step hb)
      clear hb
      have d0 : w7.cell? ⟨w.heap.size + 1, 0, none⟩ = some (.int .i64 c) := HF.out.bp.cell 0
      have d1 : w7.cell? ⟨w.heap.size + 1, 1, none⟩ = some (.slice A n cap) := HF.out.bp.cell 1
      go_wp2_with fail
      refine (check_any c A n cap l _ HF.out.ins hc hm).mono ?_
      rintro e w8 ⟨rfl, hb⟩
      replace HF := hide (HF.out.step hb)
      obtain ⟨ci, hci⟩ : ∃ b, (chkP c l).1 = b := ⟨_, rfl⟩
      obtain ⟨ce, hce⟩ : ∃ b, (chkP c l).2 = b := ⟨_, rfl⟩
      rw [hci, hce]
      have HCI := hide hci
      have HCE := hide hce
      clear hb hci hce d0 d1
      have d0 : w8.cell? ⟨w.heap.size + 1, 0, none⟩ = some (.int .i64 c) := HF.out.bp.cell 0
      have d1 : w8.cell? ⟨w.heap.size + 1, 1, none⟩ = some (.slice A n cap) := HF.out.bp.cell 1
      go_wp2_with fail
      refine (rcheck_any c A n cap l _ HF.out.ins hc hm).mono ?_
      rintro e w9 ⟨rfl, hb⟩
      rw [HCI.out, HCE.out]
      replace HF := hide (HF.out.step hb)
      obtain ⟨an, han⟩ : ∃ b, argsN num = b := ⟨_, rfl⟩
      obtain ⟨sb, hsb⟩ : ∃ b, sameB c d l m = b := ⟨_, rfl⟩
      have HA1 := hide (fun W => (args_any num W).mono fun e w' ⟨he, hw⟩ => ⟨by rw [he, han], by rw [← hw]; exact Below.refl _ _⟩ : ∀ W, Calls Try.prog 20 #[.int .i64 num] W fun e w' => e = .returned (.int .i64 an) ∧ Below W.heap.size W w')
      have HA2 := hide (fun W => (rargs_any num W).mono fun e w' ⟨he, hw⟩ => ⟨by rw [he, han], by rw [← hw]; exact Below.refl _ _⟩ : ∀ W, Calls Try.prog 21 #[.int .i64 num] W fun e w' => e = .returned (.int .i64 an) ∧ Below W.heap.size W w')
      have HS1 := hide (fun k os => by have := same_any c d A A2 n cap n2 cap2 l m _ (HF.out.re k os).ins (HF.out.re k os).ins2 hc hc2 hm hm2; rw [hsb] at this; exact this : ∀ k os, Calls Try.prog 15 #[.agg #[.int .i64 c, .slice A n cap], .agg #[.int .i64 d, .slice A2 n2 cap2]] (grow (redrawn w9 k) os) fun e w' => e = .returned (.bool sb) ∧ Below (grow (redrawn w9 k) os).heap.size (grow (redrawn w9 k) os) w')
      have HS2 := hide (fun k os => by have := rsame_any c d A A2 n cap n2 cap2 l m _ (HF.out.re k os).ins (HF.out.re k os).ins2 hc hc2 hm hm2; rw [hsb] at this; exact this : ∀ k os, Calls Try.prog 22 #[.agg #[.int .i64 c, .slice A n cap], .agg #[.int .i64 d, .slice A2 n2 cap2]] (grow (redrawn w9 k) os) fun e w' => e = .returned (.bool sb) ∧ Below (grow (redrawn w9 k) os).heap.size (grow (redrawn w9 k) os) w')
      have HLP := hide (fun (W' : World) (h : ∃ p : Regrown, W' = grow (redrawn w9 p.d) p.os) => (by
        obtain ⟨p, rfl⟩ := h
        exact blk_list (HF.out.re p.d p.os).bp : ∀ j u, [Value.int .i64 c, .slice A n cap][j]? = some u → W'.cell? ((⟨w.heap.size + 1, 0, none⟩ : Addr).add j) = some u))
      have HLQ := hide (fun (W' : World) (h : ∃ p : Regrown, W' = grow (redrawn w9 p.d) p.os) => (by
        obtain ⟨p, rfl⟩ := h
        exact blk_list (HF.out.re p.d p.os).bq : ∀ j u, [Value.int .i64 d, .slice A2 n2 cap2][j]? = some u → W'.cell? ((⟨w.heap.size + 2, 0, none⟩ : Addr).add j) = some u))
      clear hb han hsb d0 d1
      go_wp2_with fail
      refine wp_region_quiet_below (by kernel_rfl) (by kernel_rfl) ?_
      repeat (first
        | (refine wpQuiet_loadC (by rfl) 24 (.tmp 6) rfl ⟨w.heap.size + 1, 0, none⟩ (by rfl) [.int .i64 c, .slice A n cap] _ HLP.out Try.underlying24 rfl (by kernel_rfl) ?_; go_simp)
        | (refine wpQuiet_loadC (by rfl) 24 (.tmp 7) rfl ⟨w.heap.size + 2, 0, none⟩ (by rfl) [.int .i64 d, .slice A2 n2 cap2] _ HLQ.out Try.underlying24 rfl (by kernel_rfl) ?_; go_simp)
        | go_big_quiet_step ((first
            | (go_at_call 20; exact Calls.regrown_of (HA1.out _))
            | (go_at_call 21; exact Calls.regrown_of (HA2.out _))
            | (go_at_call 15; exact Calls.regrown_of (HS1.out _ _))
            | (go_at_call 22; exact Calls.regrown_of (HS2.out _ _)))))
      refine wpQuiet_nil ?_
      first
        | (intro wq hwq; obtain ⟨pq2, rfl⟩ := hwq)
        | intro pq2
      replace HF := hide (HF.out.re pq2.d pq2.os)
      clear HLP HLQ HA1 HA2 HS1 HS2
      generalize grow (redrawn w9 pq2.d) pq2.os = w10 at *
      have d0 : w10.cell? ⟨w.heap.size + 1, 0, none⟩ = some (.int .i64 c) := HF.out.bp.cell 0
      have d1 : w10.cell? ⟨w.heap.size + 1, 1, none⟩ = some (.slice A n cap) := HF.out.bp.cell 1
      go_wp2_with fail
      refine (encode_any c A n cap l _ HF.out.ins hc hm).mono ?_
      rintro e w11 ⟨A5, c5, rfl, hc5, hr5, hb⟩
      rw [HCE.out]
      replace HF := hide (HF.out.step hb)
      have HR5 := hide hr5
      clear hb hr5 d0 d1
      have d0 : w11.cell? ⟨w.heap.size + 1, 0, none⟩ = some (.int .i64 c) := HF.out.bp.cell 0
      have d1 : w11.cell? ⟨w.heap.size + 1, 1, none⟩ = some (.slice A n cap) := HF.out.bp.cell 1
      go_wp2_with fail
      refine (rencode_any c A n cap l _ HF.out.ins hc hm).mono ?_
      rintro e w12 ⟨A6, c6, rfl, hc6, hr6, hb⟩
      rw [HCE.out]
      replace HF := hide (HF.out.step hb)
      replace HR5 := hide ((HR5.out.below hb).more hb.size)
      obtain ⟨z3, hz3, cz3⟩ := conv_name w12 36 9 5 Try.underlying36 Try.underlying5 Try.underlying9 HR5.out (c := c5)
      obtain ⟨z4, hz4, cz4⟩ := conv_name w12 36 9 5 Try.underlying36 Try.underlying5 Try.underlying9 hr6 (c := c6)
      obtain rfl : z3 = z4 := by rw [hz3.out, hz4.out]
      clear hb hr6 hz3 hz4 HR5 d0 d1
      go_wp2_with fail
      refine (wakes_any _).mono ?_
      rintro e w13 ⟨rfl, hb⟩
      replace HF := hide (HF.out.step hb)
      clear hb cz3 cz4
      go_wp2
      go_ret
      exact ⟨rfl, HF.out.below⟩
    · go_wp2_with fail
      refine (wakes_any _).mono ?_
      rintro e w5 ⟨rfl, hb⟩
      replace HF := hide (HF.out.step hb)
      clear hb
      go_wp2
      go_ret
      exact ⟨rfl, HF.out.below⟩
  · go_wp2_with fail
    refine (wakes_any _).mono ?_
    rintro e w5 ⟨rfl, hb⟩
    replace HF := hide (HF.out.step hb)
    clear hb d0 d1
    go_wp2
    go_ret
    exact ⟨rfl, HF.out.below⟩
end Go.Proofs.Ytopanomcbkhbnaa
