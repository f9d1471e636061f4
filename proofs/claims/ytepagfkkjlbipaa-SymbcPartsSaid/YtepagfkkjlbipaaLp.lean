/-
  SymbcParts: arithmetic that a goto cuts in two comes to the same terms as in one block: the walk. Conditions: those written in each statement.
-/
import Derived.Test.YtepagfkkjlbipaaKaz
import Derived.Test.YtepagfkkjlbipaaKbb
import Derived.Test.YtepagfkkjlbipaaKat
import Derived.Test.YtepagfkkjlbipaaLu
namespace Go.Proofs.Ytepagfkkjlbipaa
open Go.RowKit
set_option linter.unusedVariables false
set_option linter.unusedSimpArgs false
set_option maxRecDepth 100000
theorem sizPL : (Try.prog.info? 22).map (·.size) = some 1 := by kernel_rfl
theorem one_flat (x : ID) : [x].flatMap ID.cells = x.cells := by simp
theorem kz6_wfs : ∀ x ∈ [kz 6], x.wf := fun x hx => by simp at hx; subst hx; exact kz_wf (by unfold I8; omega)
theorem kz4_wfs : ∀ x ∈ [kz 4], x.wf := fun x hx => by simp at hx; subst hx; exact kz_wf (by unfold I8; omega)
theorem eql_regs {l : List Int} (hl : l.length = 11) (hr : ∀ r ∈ l, I64 r) (w : World) : (binOp .eql 32 (.agg (rgC l).toArray) (.agg (rgC l).toArray)).run Try.prog w = .ok (.bool true) w := by
  rw [run_eql_flat (by omega) flatRg okRg aggRg (all_regs hl hr) (all_regs hl hr) w, (eqL_iff _ _ _ (all_regs hl hr) (all_regs hl hr)).2 rfl]
theorem eql_exit {x : ExD} (h1 : I8 x.kind) (h2 : I64 x.v) (h3 : I64 x.tgt) (h4 : I64 x.els) (w : World) : (binOp .eql 38 (.agg (exC x).toArray) (.agg (exC x).toArray)).run Try.prog w = .ok (.bool true) w := by
  have ha : AllK [some .i8, some .i64, some .i64, some .i64] (exC x) := by
    unfold exC
    refine ⟨rfl, fun i k v hk hv => ?_⟩
    match i with
    | 0 => simp at hk hv; subst hk hv; exact ⟨_, rfl, wf_i8 h1⟩
    | 1 => simp at hk hv; subst hk hv; exact ⟨_, rfl, wf_i64 h2⟩
    | 2 => simp at hk hv; subst hk hv; exact ⟨_, rfl, wf_i64 h3⟩
    | 3 => simp at hk hv; subst hk hv; exact ⟨_, rfl, wf_i64 h4⟩
    | k + 4 => simp at hk
  rw [run_eql_flat (by omega) flatEx okEx aggEx ha ha w, (eqL_iff _ _ _ ha ha).2 rfl]
theorem src_evs {w : World} {b : Nat} {regs : List Int} {es : Value} {ex : ExD} (hl : regs.length = 11) (h : Blk w b 40 (srcC regs es ex).toArray) : w.cell? ⟨b, 11, none⟩ = some es := by
  have := h.cell 11
  rw [this, List.getElem?_toArray]
  unfold srcC rgC
  rw [List.getElem?_append_right (by rw [List.length_map, hl]; exact Nat.le_refl _), List.length_map, hl]
  rfl
theorem build_go (w : World) : (Instr.build 38 #[(0, .int .i8 1), (2, .int .i64 1)]).run Try.prog w = .ok (.agg #[.int .i8 1, .int .i64 0, .int .i64 1, .int .i64 0]) w := run_build w 38 _ _ (by kernel_rfl)
set_option maxHeartbeats 16000000 in
theorem parts_walk (A : Option Addr) (n cap : Nat) (l : List ID) (cut : Int) (w : World) (hh : InsAt w w.heap.size A n l) (hc : n ≤ cap) (hm : n < 9223372036854775808) (hcut : I64 cut) :
    Calls Try.prog 3 #[.slice A n cap, .int .i64 cut] w fun e w' => e = .returned (.bool true) ∧ Below w.heap.size w w' := by
  have HH := hide hh
  have HN := hide (And.intro hc hm)
  have HLN := hide hh.1
  clear hh
  cases hg : decide (60 < n)
  rotate_left
  · have hn60 : 60 < n := by simpa using hg
    go_enter Try.func3, Try.ntmps3
    go_wp2_with fail
    refine (wakes_any _).mono ?_
    rintro e w2 ⟨rfl, hb⟩
    have HQ := hide hb
    clear hb
    go_wp2
    go_ret
    exact ⟨rfl, HQ.out⟩
  have hn60 : n ≤ 60 := by simpa using hg
  clear hg hc hm
  go_enter Try.func3, Try.ntmps3
  go_wp2_with fail
  go_loopw [5] (fun i wr => ∃ k : Nat, k ≤ n ∧ i = .int .i64 k ∧ Hid (∀ j x, j < k → l[j]? = some x → x.kind = 0 ∧ mayB x = true) ∧ Hid (Below w.heap.size w wr)) (fun i _ => n - (intOf i).toNat)
  case atStart => exact ⟨0, by omega, rfl, fun j x h => absurd h (Nat.not_lt_zero _), Below.refl _ _⟩
  case round =>
    obtain ⟨k, hk, rfl, HT, HLP⟩ := hrel
    rename World => wr
    have HI := hide (HH.out.below HLP.out)
    by_cases hlt : k < n
    · obtain ⟨ad, x, rfl, hab, hx, hxw, hcl⟩ := HI.out.at_ hlt
      have c0 : wr.cell? (ad.add (k * 9)) = some (.int .i8 x.kind) := by
        have := hcl 0 _ rfl
        rwa [add_of_add, Nat.add_zero] at this
      have HCL := hide hcl
      have HX := hide (And.intro hx hxw)
      obtain ⟨kd, hkd⟩ : ∃ v, x.kind = v := ⟨_, rfl⟩
      rw [hkd] at c0
      have HK := hide hkd
      clear hcl hx hxw hab hkd HI
      cases hk0 : (kd != 0)
      rotate_left
      · go_wp2_with fail
        refine (wakes_any _).mono ?_
        rintro e w2 ⟨rfl, hb⟩
        have HQ := hide hb
        clear hb
        go_wp2
        go_ret
        exact ⟨rfl, HLP.out.trans (HQ.out.mono HLP.out.size)⟩
      have hkz : kd = 0 := by simpa using hk0
      subst hkz
      clear hk0
      obtain ⟨mb, hmb⟩ : ∃ v, mayB x = v := ⟨_, rfl⟩
      have HMB := hide hmb
      clear hmb
      go_wp2_with (first
        | (refine wpList_load_atw (by rfl) 26 (.tmp 36) rfl (ad.add (k * 9)) (by rfl) x.cells _ HCL.out Try.underlying26 rfl sizIn ?_)
        | fail)
      refine (rmay_any x _ HX.out.2).mono ?_
      rintro e wq ⟨rfl, hb⟩
      rw [HMB.out]
      have HQ := hide hb
      clear hb
      cases mb
      · go_wp2_with fail
        refine (wakes_any _).mono ?_
        rintro e w2 ⟨rfl, hb⟩
        have HQ2 := hide hb
        clear hb
        go_wp2
        go_ret
        exact ⟨rfl, HLP.out.trans ((HQ.out.trans (HQ2.out.mono HQ.out.size)).mono HLP.out.size)⟩
      · go_wp2
        go_roundw
        case measure => simp [intOf]; omega
        case rel =>
          refine ⟨k + 1, by omega, by go_num, fun j y hj hy => ?_, HLP.out.trans (HQ.out.mono HLP.out.size)⟩
          rcases Nat.lt_or_ge j k with h | h
          · exact HT.out j y h hy
          · obtain rfl : j = k := by omega
            rw [HX.out.1] at hy
            obtain rfl := Option.some.inj hy
            exact ⟨HK.out, HMB.out⟩
    · obtain rfl : k = n := by omega
      have hal : AluL l := fun x hx => by
        obtain ⟨j, hj⟩ := List.getElem?_of_mem hx
        exact HT.out j x (by have := (List.getElem?_eq_some_iff.1 hj).1; have := HLN.out; omega) hj
      have HAL := hide hal
      clear hal HT HH hlt hk
      have HIW := hide HI.out
      clear HI
      obtain ⟨cN, hcN⟩ : ∃ q : Nat, (q : Int) = min (max cut 0) (k : Int) := ⟨(min (max cut 0) (k : Int)).toNat, by omega⟩
      have hcn : cN ≤ k := by omega
      have HCN := hide hcN
      clear hcN
      go_upto_region 8 with fail
      go_cut [1] from 42 to 46 (fun x wc => x = .int .i64 (cN : Int) ∧ wc = wr)
      case first =>
        as_aux_lemma =>
          go_wp2_with fail
          all_goals
            go_meet
            case rel => exact ⟨by congr 1; have := HCN.out; omega, rfl⟩
      case rest =>
      obtain ⟨rfl, rfl⟩ := hcut
      -- the variables
      obtain ⟨iI, hiI, hzI, hsI, hbI⟩ := info_parts infI
      have II := hide (And.intro hiI (And.intro hzI (And.intro hsI hbI)))
      clear hiI hzI hsI hbI
      go_upto_region 10 with fail
      obtain ⟨b6, hb6⟩ : ∃ q, wc.heap.size = q := ⟨_, rfl⟩
      obtain ⟨w2, hw2⟩ : ∃ q, (wc.alloc (.cells #[.int .i64 0, .slice none 0 0] 29)).alloc (.cells #[.int .i64 0, .slice none 0 0] 29) = q := ⟨_, rfl⟩
      have hx6 : Blk w2 b6 29 #[.int .i64 0, .slice none 0 0] := by rw [← hw2, ← hb6]; exact (Blk.new wc _ _).alloc _
      have hx7 : Blk w2 (b6 + 1) 29 #[.int .i64 0, .slice none 0 0] := by
        rw [← hw2, ← hb6]
        have := Blk.new (wc.alloc (.cells #[.int .i64 0, .slice none 0 0] 29)) 29 #[.int .i64 0, .slice none 0 0]
        simpa using this
      have hbe : Below wc.heap.size wc w2 := by rw [← hw2]; exact ((Below.refl _ wc).alloc (Nat.le_refl _) _).alloc (by simp) _
      have hs2 : w2.heap.size = b6 + 2 := by rw [← hw2, ← hb6]; simp
      have hwb : w.heap.size ≤ b6 := by rw [← hb6]; exact HLP.out.size
      have HBW := hide (HLP.out.trans (hbe.mono HLP.out.size))
      have HG6 := hide (GA.nil (lo := b6 + 2) hx6 (by omega) (by omega))
      have HX7 := hide hx7
      have hHI := InsF.of_ins (F := fun q => b6 ≤ q) (HIW.out.below (hbe.mono HLP.out.size)) (by omega) (fun q h => by omega)
      have HI := hide hHI
      have HWB := hide hwb
      have c61 : w2.cell? ⟨b6, 1, none⟩ = some (.slice none 0 0) := hx6.cell 1
      clear hx6 hx7 hbe hHI hwb HIW HLP hs2
      rw [hw2, hb6]
      clear hw2 hb6
      go_upto_region 11 with (first
        | (refine wpList_append_any _ rfl (.tmp 48) (.tmp 49) 22 rfl (b6 + 2) 26 iI _ 9 24 Try.underlying22 II.out.1 II.out.2.1 II.out.2.2.1 II.out.2.2.2 rfl (by omega) (.slice none 0 0) 0 [] (by rfl) HG6.out.o _ A k cap _ (by rfl) HI.out.ins.2.2 (flatI_one l) (by unfold maxLen; omega) (by omega) HG6.out.le ?_
           intro v3 w3 R3 G3 _
           obtain ⟨A3, c3, hv3, k31, k3f, k3b, hg3, hc3⟩ := HG6.out.app HLN.out HI.out.2.1 R3 G3
           subst hv3
           rw [Nat.zero_add, List.nil_append] at hg3
           rw [Nat.zero_add] at hc3 ⊢
           have HG3 := hide hg3
           have HC3 := hide hc3
           clear R3 G3 hg3 hc3 c61)
        | fail)
      replace HBW := hide (HBW.out.trans (HC3.out.below (B := w.heap.size) (fun q h => by have := HWB.out; rcases h with h | h <;> omega) HBW.out.size))
      replace HI := hide (show InsF _ (fun q => b6 ≤ q) A k l from HI.out.chg HC3.out (fun b q => .inl (by rcases q with h | h <;> omega)) (fun b q => .inl q))
      replace HX7 := hide (HC3.out.blk HX7.out (fun q => by rcases q with h | h <;> omega))
      clear HC3 k31 k3f k3b HG6
      generalize w3.setCell ⟨b6, 1, none⟩ (.slice A3 k c3) = w4 at HG3 HI HX7 HBW ⊢
      have c61 : w4.cell? ⟨b6, 1, none⟩ = some (.slice A3 k c3) := HG3.out.x.cell 1
      have hbx := fun (w : World) => build_kz6 w
      go_upto_region 12 with (first
        | (refine wpList_push rfl rfl 22 26 (.tmp 54) (.tmp 53) (.tmp 55) rfl rfl (b6 + 2) 9 24 iI _ (.agg (kz 6).cells.toArray) (.slice A3 k c3) (kz 6).cells _ k Try.underlying22 II.out.1 II.out.2.1 II.out.2.2.1 II.out.2.2.2 rfl (by omega) (by omega) (by rfl) rfl rfl (kz 6).one HG3.out.o HG3.out.le (by unfold maxLen; omega) (by omega) (by rfl) (by rfl) ?_
           intro v5 w5 g5 hg5 O5 B5 P5
           obtain ⟨A5, c5, hv5, k51, k5f, k5b, hgg5, hc5⟩ := HG3.out.app (qs := [kz 6]) (m := 1) rfl kz6_wfs (by rw [one_flat]; exact O5) P5
           subst hv5
           have HG5 := hide hgg5
           have HC5 := hide hc5
           clear O5 B5 P5 hgg5 hc5 c61 hg5)
        | fail)
      replace HBW := hide (HBW.out.trans (HC5.out.below (B := w.heap.size) (fun q h => by have := HWB.out; rcases h with h | h <;> omega) HBW.out.size))
      replace HI := hide (show InsF _ (fun q => b6 ≤ q) A k l from HI.out.chg HC5.out (fun b q => .inl (by rcases q with h | h <;> omega)) (fun b q => .inl q))
      replace HX7 := hide (HC5.out.blk HX7.out (fun q => by rcases q with h | h <;> omega))
      clear HC5 k51 k5f k5b HG3
      generalize w5.setCell ⟨b6, 1, none⟩ (.slice A5 (k + 1) c5) = w6 at HG5 HI HX7 HBW ⊢
      -- the whole is there; its parts
      obtain ⟨lo7, hlo7⟩ : ∃ q, w6.heap.size = q := ⟨_, rfl⟩
      obtain ⟨b7, hb7⟩ : ∃ q, b6 + 1 = q := ⟨_, rfl⟩
      have hle6 : b6 + 2 ≤ lo7 := by rw [← hlo7]; exact HG5.out.le
      have HC6 := hide (show k + 1 ≤ c5 ∧ InsF w6 (apartF b7 lo7) A5 (k + 1) (wholeL l) from HG5.out.ins (fun q h => by rcases h with h | h <;> omega))
      have HB6 := hide HG5.out.x
      rw [hb7] at HX7 ⊢
      have HG7 := hide (GA.nil HX7.out (lo := lo7) (by omega) (by omega))
      have HL7 := hide (show b6 < b7 ∧ b7 < lo7 ∧ w.heap.size ≤ b6 from ⟨by omega, by omega, HWB.out⟩)
      clear HG5 HX7 HWB hle6 hlo7 hb7
      go_upto_region 12 with fail
      refine wp_region_E (fun _ => True) (fun w' => w'.cell? ⟨b7, 1, none⟩ = some (.slice none 0 0)) [7] (by kernel_rfl) ?_
      replace HBW := hide HBW.out.drew
      replace HI := hide (show InsF w6.drew (fun q => b6 ≤ q) A k l from HI.out)
      replace HC6 := hide (show k + 1 ≤ c5 ∧ InsF w6.drew (apartF b7 lo7) A5 (k + 1) (wholeL l) from HC6.out)
      replace HB6 := hide HB6.out.drew
      replace HG7 := hide HG7.out.drew
      generalize w6.drew = Wd at HBW HI HC6 HB6 HG7 ⊢
      have HS := hide (show Wd.cell? ⟨b7, 1, none⟩ = some (.slice none 0 0) from HG7.out.x.cell 1)
      have HTK := hide (show Reads Wd Wd.heap.size 9 A cN ((l.take cN).flatMap ID.cells) by
        have := HI.out.2.2.take_g (m := cN) (by omega)
        rw [flat_takes ID.cells 9 l cN (fun x _ => rfl)] at this
        exact this.reads)
      have HLT := hide (show (l.take cN).length = cN by rw [List.length_take, HLN.out]; omega)
      have HWT := hide (fun x hx => HI.out.2.1 x (List.mem_of_mem_take hx) : ∀ x ∈ l.take cN, x.wf)
      refine E_field 0 (some 58) 29 _ 1 ⟨b7, 0, none⟩ ⟨b7, 1, none⟩ rfl (by kernel_rfl) (by rfl) (fun _ _ _ h => h) (by rfl) (fun w => by kernel_rfl) (.both trivial HS.out) ?_
      simp only [Act.put, List.setIfInBounds_toArray, List.set_cons_zero, List.set_cons_succ]
      refine E_load1 true 1 (some 59) 22 _ ⟨b7, 1, none⟩ (.slice none 0 0) rfl (by kernel_rfl) (by rfl) (fun _ _ _ h => h) (by rfl) (fun w hS => run_loadVar_one _ _ _ _ Try.underlying22 rfl ((hS.2 rfl))) (.both trivial HS.out) ?_
      simp only [Act.put, List.setIfInBounds_toArray, List.set_cons_zero, List.set_cons_succ]
      refine E_move 2 (some 60) _ (.slice A k cap) rfl (by kernel_rfl) (by rfl) (fun _ _ _ h => h) (by rfl) (.both trivial HS.out) ?_
      simp only [Act.put, List.setIfInBounds_toArray, List.set_cons_zero, List.set_cons_succ]
      refine E_move 3 (some 61) _ (.int .i64 (cN : Int)) rfl (by kernel_rfl) (by rfl) (fun _ _ _ h => h) (by rfl) (.both trivial HS.out) ?_
      simp only [Act.put, List.setIfInBounds_toArray, List.set_cons_zero, List.set_cons_succ]
      refine E_sliceT 4 (some 62) _ _ _ _ (.slice A k cap) none (some (.int .i64 (cN : Int))) (.slice A cN cap) rfl (by kernel_rfl) (by rfl) (fun _ _ _ h => h) (by rfl) (by rfl) (by rfl) (run_to hcn HN.out.1) (.both trivial HS.out) ?_
      simp only [Act.put, List.setIfInBounds_toArray, List.set_cons_zero, List.set_cons_succ]
      refine E_one 5 (by kernel_rfl) (StepE.append 5 (some 63) 22 26 _ _ lo7 iI _ 9 24 rfl (by rfl) Try.underlying22 II.out.1 II.out.2.1 II.out.2.2.1 II.out.2.2.2 rfl (by omega) (.slice none 0 0) 0 [] (by rfl) HG7.out.o _ A cN cap ((l.take cN).flatMap ID.cells) (by rfl) HTK.out (flatI_one _) (by unfold maxLen; omega) (by omega) HG7.out.le ?_)
      intro vq wb R2 G2 O2
      obtain ⟨Aq, cq, hvq, hqc, hqf, hqb, hqg, hqh⟩ := HG7.out.app (qs := l.take cN) (m := cN) HLT.out HWT.out R2 G2
      subst hvq
      simp only [Nat.zero_add, List.nil_append] at hqg hqh hqc ⊢
      have HGQ := hide hqg
      have HCQ := hide hqh
      replace HS := hide hqc
      clear O2 R2 G2 hqg hqh hqc
      refine ⟨.both trivial HS.out, ?_⟩
      simp only [Act.put, List.setIfInBounds_toArray, List.set_cons_zero, List.set_cons_succ]
      refine E_field 6 (some 64) 29 _ 1 ⟨b7, 0, none⟩ ⟨b7, 1, none⟩ rfl (by kernel_rfl) (by rfl) (fun _ _ _ h => h) (by rfl) (fun w => by kernel_rfl) (.both trivial HS.out) ?_
      simp only [Act.put, List.setIfInBounds_toArray, List.set_cons_zero, List.set_cons_succ]
      refine E_one 7 (by kernel_rfl) (StepE.store_at 7 22 _ _ ⟨b7, 1, none⟩ (.slice Aq cN cq) _ rfl (by rfl) (by rfl) (by rfl) (run_storeVar_one 22 b7 1 29 _ _ hqb (by simp) sizPL rfl rfl) (.after trivial (by kernel_rfl)) ?_)
      simp only [Act.put, List.setIfInBounds_toArray, List.set_cons_zero, List.set_cons_succ]
      refine wpAnyE_done (by kernel_rfl) ?_ _
      replace HBW := hide (HBW.out.trans (HCQ.out.below (B := w.heap.size) (fun q h => by have := HL7.out; rcases h with h | h <;> omega) HBW.out.size))
      replace HI := hide (show InsF _ (fun q => b6 ≤ q) A k l from HI.out.chg HCQ.out (fun b q => .inl (by have := HL7.out; rcases q with h | h <;> omega)) (fun b q => .inl q))
      replace HC6 := hide (show k + 1 ≤ c5 ∧ InsF _ (apartF b7 lo7) A5 (k + 1) (wholeL l) from ⟨HC6.out.1, HC6.out.2.chg HCQ.out (fun b q => .inl q) (fun b q => .inl q)⟩)
      replace HB6 := hide (HCQ.out.blk HB6.out (fun q => by have := HL7.out; rcases q with h | h <;> omega))
      clear HCQ HS hqb hqf HG7 HTK HLT HWT
      generalize wb.setCell ⟨b7, 1, none⟩ (.slice Aq cN cq) = w8 at HGQ HI HB6 HC6 HBW ⊢
      have c71 : w8.cell? ⟨b7, 1, none⟩ = some (.slice Aq cN cq) := HGQ.out.x.cell 1
      have hby := fun (w : World) => build_kz4 w
      go_upto_region 14 with (first
        | (refine wpList_push rfl rfl 22 26 (.tmp 67) (.tmp 66) (.tmp 68) rfl rfl lo7 9 24 iI _ (.agg (kz 4).cells.toArray) (.slice Aq cN cq) (kz 4).cells _ cN Try.underlying22 II.out.1 II.out.2.1 II.out.2.2.1 II.out.2.2.2 rfl (by omega) (by omega) (by rfl) rfl rfl (kz 4).one HGQ.out.o HGQ.out.le (by unfold maxLen; omega) (by omega) (by rfl) (by rfl) ?_
           intro v9 w9 g9 hg9 O9 B9 P9
           obtain ⟨A9, c9, hv9, k91, k9f, k9b, hgg9, hc9⟩ := HGQ.out.app (qs := [kz 4]) (m := 1) rfl kz4_wfs (by rw [one_flat]; exact O9) P9
           subst hv9
           have HG9 := hide hgg9
           have HC9 := hide hc9
           clear O9 B9 P9 hgg9 hc9 c71 hg9)
        | fail)
      replace HBW := hide (HBW.out.trans (HC9.out.below (B := w.heap.size) (fun q h => by have := HL7.out; rcases h with h | h <;> omega) HBW.out.size))
      replace HI := hide (show InsF _ (fun q => b6 ≤ q) A k l from HI.out.chg HC9.out (fun b q => .inl (by have := HL7.out; rcases q with h | h <;> omega)) (fun b q => .inl q))
      replace HC6 := hide (show k + 1 ≤ c5 ∧ InsF _ (apartF b7 lo7) A5 (k + 1) (wholeL l) from ⟨HC6.out.1, HC6.out.2.chg HC9.out (fun b q => .inl q) (fun b q => .inl q)⟩)
      replace HB6 := hide (HC9.out.blk HB6.out (fun q => by have := HL7.out; rcases q with h | h <;> omega))
      clear HC9 k91 k9f k9b HGQ
      generalize w9.setCell ⟨b7, 1, none⟩ (.slice A9 (cN + 1) c9) = w10 at HG9 HI HB6 HC6 HBW ⊢
      refine wp_region_E (fun _ => True) (fun w' => w'.cell? ⟨b7, 1, none⟩ = some (.slice A9 (cN + 1) c9)) [7] (by kernel_rfl) ?_
      replace HBW := hide HBW.out.drew
      replace HI := hide (show InsF w10.drew (fun q => b6 ≤ q) A k l from HI.out)
      replace HC6 := hide (show k + 1 ≤ c5 ∧ InsF w10.drew (apartF b7 lo7) A5 (k + 1) (wholeL l) from HC6.out)
      replace HB6 := hide HB6.out.drew
      replace HG9 := hide HG9.out.drew
      generalize w10.drew = Wd at HBW HI HC6 HB6 HG9 ⊢
      have HS := hide (show Wd.cell? ⟨b7, 1, none⟩ = some (.slice A9 (cN + 1) c9) from HG9.out.x.cell 1)
      obtain ⟨Ad, hAd⟩ : ∃ q, (if cap = cN then A else A.map (·.add (cN * 9))) = q := ⟨_, rfl⟩
      have HTK := hide (show Reads Wd Wd.heap.size 9 Ad (k - cN) ((l.drop cN).flatMap ID.cells) by
        have := HI.out.2.2.cut (k := cN) hcn HN.out.1
        rw [flat_drop ID.cells 9 l cN (fun x _ => rfl), hAd] at this
        exact this.reads)
      have HRF := hide (fun W => by have := run_from (A := A) hcn HN.out.1 W; rw [hAd] at this; exact this : ∀ W, (Instr.sliceAt 22 (.slice A k cap) (some (.int .i64 (cN : Int))) none none).run Try.prog W = .ok (.slice Ad (k - cN) (cap - cN)) W)
      have HLT := hide (show (l.drop cN).length = k - cN by rw [List.length_drop, HLN.out])
      have HWT := hide (fun x hx => HI.out.2.1 x (List.mem_of_mem_drop hx) : ∀ x ∈ l.drop cN, x.wf)
      clear hAd
      refine E_field 0 (some 71) 29 _ 1 ⟨b7, 0, none⟩ ⟨b7, 1, none⟩ rfl (by kernel_rfl) (by rfl) (fun _ _ _ h => h) (by rfl) (fun w => by kernel_rfl) (.both trivial HS.out) ?_
      simp only [Act.put, List.setIfInBounds_toArray, List.set_cons_zero, List.set_cons_succ]
      refine E_load1 true 1 (some 72) 22 _ ⟨b7, 1, none⟩ (.slice A9 (cN + 1) c9) rfl (by kernel_rfl) (by rfl) (fun _ _ _ h => h) (by rfl) (fun w hS => run_loadVar_one _ _ _ _ Try.underlying22 rfl ((hS.2 rfl))) (.both trivial HS.out) ?_
      simp only [Act.put, List.setIfInBounds_toArray, List.set_cons_zero, List.set_cons_succ]
      refine E_move 2 (some 73) _ (.slice A k cap) rfl (by kernel_rfl) (by rfl) (fun _ _ _ h => h) (by rfl) (.both trivial HS.out) ?_
      simp only [Act.put, List.setIfInBounds_toArray, List.set_cons_zero, List.set_cons_succ]
      refine E_move 3 (some 74) _ (.int .i64 (cN : Int)) rfl (by kernel_rfl) (by rfl) (fun _ _ _ h => h) (by rfl) (.both trivial HS.out) ?_
      simp only [Act.put, List.setIfInBounds_toArray, List.set_cons_zero, List.set_cons_succ]
      refine E_sliceT 4 (some 75) _ _ _ _ (.slice A k cap) (some (.int .i64 (cN : Int))) none (.slice Ad (k - cN) (cap - cN)) rfl (by kernel_rfl) (by rfl) (fun _ _ _ h => h) (by rfl) (by rfl) (by rfl) HRF.out (.both trivial HS.out) ?_
      simp only [Act.put, List.setIfInBounds_toArray, List.set_cons_zero, List.set_cons_succ]
      refine E_one 5 (by kernel_rfl) (StepE.append 5 (some 76) 22 26 _ _ lo7 iI _ 9 24 rfl (by rfl) Try.underlying22 II.out.1 II.out.2.1 II.out.2.2.1 II.out.2.2.2 rfl (by omega) (.slice A9 (cN + 1) c9) (cN + 1) _ (by rfl) HG9.out.o _ Ad (k - cN) (cap - cN) ((l.drop cN).flatMap ID.cells) (by rfl) HTK.out (flatI_one _) (by unfold maxLen; omega) (by omega) HG9.out.le ?_)
      intro vq wb R2 G2 O2
      obtain ⟨Aq, cq, hvq, hqc, hqf, hqb, hqg, hqh⟩ := HG9.out.app (qs := l.drop cN) (m := k - cN) HLT.out HWT.out R2 G2
      subst hvq
      have HGQ := hide hqg
      have HCQ := hide hqh
      replace HS := hide hqc
      clear O2 R2 G2 hqg hqh hqc
      refine ⟨.both trivial HS.out, ?_⟩
      simp only [Act.put, List.setIfInBounds_toArray, List.set_cons_zero, List.set_cons_succ]
      refine E_field 6 (some 77) 29 _ 1 ⟨b7, 0, none⟩ ⟨b7, 1, none⟩ rfl (by kernel_rfl) (by rfl) (fun _ _ _ h => h) (by rfl) (fun w => by kernel_rfl) (.both trivial HS.out) ?_
      simp only [Act.put, List.setIfInBounds_toArray, List.set_cons_zero, List.set_cons_succ]
      refine E_one 7 (by kernel_rfl) (StepE.store_at 7 22 _ _ ⟨b7, 1, none⟩ (.slice Aq (cN + 1 + (k - cN)) cq) _ rfl (by rfl) (by rfl) (by rfl) (run_storeVar_one 22 b7 1 29 _ _ hqb (by simp) sizPL rfl rfl) (.after trivial (by kernel_rfl)) ?_)
      simp only [Act.put, List.setIfInBounds_toArray, List.set_cons_zero, List.set_cons_succ]
      refine wpAnyE_done (by kernel_rfl) ?_ _
      replace HBW := hide (HBW.out.trans (HCQ.out.below (B := w.heap.size) (fun q h => by have := HL7.out; rcases h with h | h <;> omega) HBW.out.size))
      replace HI := hide (show InsF _ (fun q => b6 ≤ q) A k l from HI.out.chg HCQ.out (fun b q => .inl (by have := HL7.out; rcases q with h | h <;> omega)) (fun b q => .inl q))
      replace HC6 := hide (show k + 1 ≤ c5 ∧ InsF _ (apartF b7 lo7) A5 (k + 1) (wholeL l) from ⟨HC6.out.1, HC6.out.2.chg HCQ.out (fun b q => .inl q) (fun b q => .inl q)⟩)
      replace HB6 := hide (HCQ.out.blk HB6.out (fun q => by have := HL7.out; rcases q with h | h <;> omega))
      have hnn : cN + 1 + (k - cN) = k + 1 := by omega
      clear HCQ HS hqb hqf HG9 HTK HLT HWT HRF
      generalize wb.setCell ⟨b7, 1, none⟩ (.slice Aq (cN + 1 + (k - cN)) cq) = w11 at HGQ HI HB6 HC6 HBW ⊢
      rw [hnn] at HGQ
      have c71 : w11.cell? ⟨b7, 1, none⟩ = some (.slice Aq (k + 1) cq) := HGQ.out.x.cell 1
      clear hnn
      go_upto_region 16 with (first
        | (refine wpList_push rfl rfl 22 26 (.tmp 80) (.tmp 79) (.tmp 81) rfl rfl lo7 9 24 iI _ (.agg (kz 6).cells.toArray) (.slice Aq (k + 1) cq) (kz 6).cells _ (k + 1) Try.underlying22 II.out.1 II.out.2.1 II.out.2.2.1 II.out.2.2.2 rfl (by omega) (by omega) (by rfl) rfl rfl (kz 6).one HGQ.out.o HGQ.out.le (by unfold maxLen; omega) (by omega) (by rfl) (by rfl) ?_
           intro v9 w9 g9 hg9 O9 B9 P9
           obtain ⟨A11, c11, hv9, k91, k9f, k9b, hgg9, hc9⟩ := HGQ.out.app (qs := [kz 6]) (m := 1) rfl kz6_wfs (by rw [one_flat]; exact O9) P9
           subst hv9
           have HG9 := hide hgg9
           have HC9 := hide hc9
           clear O9 B9 P9 hgg9 hc9 c71 hg9)
        | fail)
      replace HBW := hide (HBW.out.trans (HC9.out.below (B := w.heap.size) (fun q h => by have := HL7.out; rcases h with h | h <;> omega) HBW.out.size))
      replace HI := hide (show InsF _ (fun q => b6 ≤ q) A k l from HI.out.chg HC9.out (fun b q => .inl (by have := HL7.out; rcases q with h | h <;> omega)) (fun b q => .inl q))
      replace HC6 := hide (show k + 1 ≤ c5 ∧ InsF _ (apartF b7 lo7) A5 (k + 1) (wholeL l) from ⟨HC6.out.1, HC6.out.2.chg HC9.out (fun b q => .inl q) (fun b q => .inl q)⟩)
      replace HB6 := hide (HC9.out.blk HB6.out (fun q => by have := HL7.out; rcases q with h | h <;> omega))
      clear HC9 k91 k9f k9b HGQ HI hbx hby II
      generalize w9.setCell ⟨b7, 1, none⟩ (.slice A11 (k + 1 + 1) c11) = w12 at HG9 HB6 HC6 HBW ⊢
      have HC7 := hide (show k + 2 ≤ c11 ∧ InsF w12 (fun _ => False) A11 (k + 2) (partsL l cN) from HG9.out.ins (fun q h => h.elim))
      replace HC6 := hide (show k + 1 ≤ c5 ∧ InsF w12 (fun _ => False) A5 (k + 1) (wholeL l) from ⟨HC6.out.1, HC6.out.2.chg (H := fun _ => False) (Chg.refl _ _) (fun b q => q.elim) (fun b q => q.elim)⟩)
      have HB7 := hide HG9.out.x
      have hpf := parts_plain HAL.out (by rw [HLN.out]; exact hn60) (by rw [HLN.out]; exact hcn)
      obtain ⟨qp, rgs, r1, vv, hpf⟩ := hpf
      have HPF := hide hpf
      clear HG9 hpf HL7 HCN
      -- the pool
      go_wp2_with fail
      refine (new_any _).mono ?_
      rintro e w13 ⟨g, F0, rfl, hp, hb⟩
      have HF := hide (fun b q => (hp.fb b q).1 : ∀ b, F0 b → w12.heap.size ≤ b)
      have HB := hide hb.size
      have HW2 := hide hb
      have HQ := hide (PG.refl hp)
      replace HB6 := hide (show Blk w13 b6 29 #[.int .i64 0, .slice A5 (k + 1) c5] ∧ ¬ F0 b6 from ⟨HB6.out.below hb HB6.out.lt, fun q => by have := (hp.fb b6 q).1; have := HB6.out.lt; omega⟩)
      replace HB7 := hide (show Blk w13 b7 29 #[.int .i64 0, .slice A11 (k + 2) c11] ∧ ¬ F0 b7 from ⟨HB7.out.below hb HB7.out.lt, fun q => by have := (hp.fb b7 q).1; have := HB7.out.lt; omega⟩)
      have HI6 := hide (show InsF w13 F0 A5 (k + 1) (wholeL l) from InsF.of_ins (HC6.out.2.ins.below hb) hb.size (fun k q => (hp.fb k q).1))
      have HI7 := hide (show InsF w13 F0 A11 (k + 2) (partsL l cN) from InsF.of_ins (HC7.out.2.ins.below hb) hb.size (fun k q => (hp.fb k q).1))
      have hc6 := HC6.out.1
      have hc7 := HC7.out.1
      have hz0 : I64 0 := by unfold I64; omega
      have hz1 : I64 1 := by unfold I64; omega
      clear hp hb HC6 HC7
      go_upto_region 17 with fail
      go_wp2_with fail
      refine (start_any HQ.out.pool HB.out).mono ?_
      rintro e w14 ⟨rfl, F1, hp⟩
      rw [start_empty] at hp ⊢
      replace HB6 := hide (hp.blk HB6.out.1 HB6.out.2)
      replace HB7 := hide (hp.blk HB7.out.1 HB7.out.2)
      replace HI6 := hide (show InsF w14 F1 A5 (k + 1) (wholeL l) from HI6.out.chg hp.chg (fun b q => .inl q) (fun b q => hp.new b q))
      replace HI7 := hide (show InsF w14 F1 A11 (k + 2) (partsL l cN) from HI7.out.chg hp.chg (fun b q => .inl q) (fun b q => hp.new b q))
      replace HQ := hide (HQ.out.trans hp)
      replace HB := hide (Nat.le_trans HB.out hp.chg.size)
      clear hp
      go_upto_region 18 with (first
        | (refine wpList_store_new rfl 32 (.tmp 9) (.tmp 88) rfl _ (rgC R0) (.agg (rgC R0).toArray) (by rfl) (by rfl) rfl sizR (by rfl) (rgC_one _) ?_
           intro w15 Gz Lz Zz
           have HB9 := hide Gz
           have HLz := hide Lz
           clear Gz Lz Zz)
        | fail)
      have hnf : ¬ F1 w14.heap.size := fun q => by have := (HQ.out.pool.fb _ q).2; omega
      obtain ⟨b9, hbn⟩ : ∃ q, w14.heap.size = q := ⟨_, rfl⟩
      rw [hbn] at HB9 hnf ⊢
      replace HB9 := hide (And.intro HB9.out hnf)
      replace HB6 := hide (And.intro (HB6.out.1.below HLz.out HB6.out.1.lt) HB6.out.2)
      replace HB7 := hide (And.intro (HB7.out.1.below HLz.out HB7.out.1.lt) HB7.out.2)
      replace HI6 := hide (HI6.out.step HLz.out)
      replace HI7 := hide (HI7.out.step HLz.out)
      replace HQ := hide (HQ.out.step HLz.out)
      replace HB := hide (Nat.le_trans HB.out HLz.out.size)
      clear hbn HLz hnf
      have c60 : w15.cell? ⟨b6, 0, none⟩ = some (.int .i64 0) := HB6.out.1.cell 0
      have c61 : w15.cell? ⟨b6, 1, none⟩ = some (.slice A5 (k + 1) c5) := HB6.out.1.cell 1
      have hR0 : ∀ r ∈ R0, I64 r := fun r hr => has_i64 P0_good.1 (P0_good.2.2 r hr)
      go_wp2_with (first
        | (refine wpList_load_at rfl 32 (.tmp 9) rfl ⟨b9, 0, none⟩ (by rfl) (rgC R0) _ (blk_list HB9.out.1) Try.underlying32 rfl (sizR) ?_)
        | fail)
      refine (srun_any HQ.out.pool HB.out 0 A5 (k + 1) c5 (wholeL l) HI6.out hc6 (by omega) 0 hz0 R0 rfl hR0).mono ?_
      rintro e w16 ⟨es, F2, rfl, hp, hev, ho⟩
      rw [HPF.out.whole] at hp hev ⊢
      dsimp only at hp hev ⊢
      replace HB6 := hide (hp.blk HB6.out.1 HB6.out.2)
      replace HB7 := hide (hp.blk HB7.out.1 HB7.out.2)
      replace HB9 := hide (hp.blk HB9.out.1 HB9.out.2)
      replace HI6 := hide (show InsF w16 F2 A5 (k + 1) (wholeL l) from HI6.out.chg hp.chg (fun b q => .inl q) (fun b q => hp.new b q))
      replace HI7 := hide (show InsF w16 F2 A11 (k + 2) (partsL l cN) from HI7.out.chg hp.chg (fun b q => .inl q) (fun b q => hp.new b q))
      replace HQ := hide (HQ.out.trans hp)
      replace HB := hide (Nat.le_trans HB.out hp.chg.size)
      obtain ⟨Ae, ce, hes, _⟩ := hev.form
      rw [List.length_nil] at hes
      subst hes
      have HO := hide ho
      clear hp hev ho
      clear c60 c61
      go_upto_region 19 with (first
        | (refine wpList_store_new rfl 40 (.tmp 11) (.tmp 95) rfl _ (srcC rgs (.slice Ae 0 ce) ⟨0, vv, 0, 0⟩) (.agg (srcC rgs (.slice Ae 0 ce) ⟨0, vv, 0, 0⟩).toArray) (by rfl) (by rfl) rfl (by rw [srcC_len HPF.out.len.1]; exact sizS) (by rw [srcC_len HPF.out.len.1]; rfl) (srcC_one HO.out _) ?_
           intro w17 Gz Lz Zz
           have HB11 := hide Gz
           have HLz := hide Lz
           clear Gz Lz Zz)
        | fail)
      have hnf : ¬ F2 w16.heap.size := fun q => by have := (HQ.out.pool.fb _ q).2; omega
      obtain ⟨b11, hbn⟩ : ∃ q, w16.heap.size = q := ⟨_, rfl⟩
      rw [hbn] at HB11 hnf ⊢
      replace HB11 := hide (And.intro HB11.out hnf)
      replace HB6 := hide (And.intro (HB6.out.1.below HLz.out HB6.out.1.lt) HB6.out.2)
      replace HB7 := hide (And.intro (HB7.out.1.below HLz.out HB7.out.1.lt) HB7.out.2)
      replace HB9 := hide (And.intro (HB9.out.1.below HLz.out HB9.out.1.lt) HB9.out.2)
      replace HI6 := hide (HI6.out.step HLz.out)
      replace HI7 := hide (HI7.out.step HLz.out)
      replace HQ := hide (HQ.out.step HLz.out)
      replace HB := hide (Nat.le_trans HB.out HLz.out.size)
      clear hbn HLz hnf
      have c70 : w17.cell? ⟨b7, 0, none⟩ = some (.int .i64 0) := HB7.out.1.cell 0
      have c71 : w17.cell? ⟨b7, 1, none⟩ = some (.slice A11 (k + 2) c11) := HB7.out.1.cell 1
      clear HO
      go_wp2_with (first
        | (refine wpList_load_at rfl 32 (.tmp 9) rfl ⟨b9, 0, none⟩ (by rfl) (rgC R0) _ (blk_list HB9.out.1) Try.underlying32 rfl (sizR) ?_)
        | fail)
      refine (srun_any HQ.out.pool HB.out 0 A11 (k + 2) c11 (partsL l cN) HI7.out hc7 (by omega) 0 hz0 R0 rfl hR0).mono ?_
      rintro e w18 ⟨es, F3, rfl, hp, hev, ho⟩
      rw [HPF.out.fst] at hp hev ⊢
      dsimp only at hp hev ⊢
      replace HB6 := hide (hp.blk HB6.out.1 HB6.out.2)
      replace HB7 := hide (hp.blk HB7.out.1 HB7.out.2)
      replace HB9 := hide (hp.blk HB9.out.1 HB9.out.2)
      replace HB11 := hide (hp.blk HB11.out.1 HB11.out.2)
      replace HI6 := hide (show InsF w18 F3 A5 (k + 1) (wholeL l) from HI6.out.chg hp.chg (fun b q => .inl q) (fun b q => hp.new b q))
      replace HI7 := hide (show InsF w18 F3 A11 (k + 2) (partsL l cN) from HI7.out.chg hp.chg (fun b q => .inl q) (fun b q => hp.new b q))
      replace HQ := hide (HQ.out.trans hp)
      replace HB := hide (Nat.le_trans HB.out hp.chg.size)
      obtain ⟨Af, cf, hes, _⟩ := hev.form
      rw [List.length_nil] at hes
      subst hes
      have HO := hide ho
      clear hp hev ho
      clear c70 c71
      go_upto_region 20 with (first
        | (refine wpList_store_new rfl 40 (.tmp 13) (.tmp 102) rfl _ (srcC r1 (.slice Af 0 cf) ⟨1, 0, 1, 0⟩) (.agg (srcC r1 (.slice Af 0 cf) ⟨1, 0, 1, 0⟩).toArray) (by rfl) (by rfl) rfl (by rw [srcC_len HPF.out.len.2]; exact sizS) (by rw [srcC_len HPF.out.len.2]; rfl) (srcC_one HO.out _) ?_
           intro w19 Gz Lz Zz
           have HB13 := hide Gz
           have HLz := hide Lz
           clear Gz Lz Zz)
        | fail)
      have hnf : ¬ F3 w18.heap.size := fun q => by have := (HQ.out.pool.fb _ q).2; omega
      obtain ⟨b13, hbn⟩ : ∃ q, w18.heap.size = q := ⟨_, rfl⟩
      rw [hbn] at HB13 hnf ⊢
      replace HB13 := hide (And.intro HB13.out hnf)
      replace HB6 := hide (And.intro (HB6.out.1.below HLz.out HB6.out.1.lt) HB6.out.2)
      replace HB7 := hide (And.intro (HB7.out.1.below HLz.out HB7.out.1.lt) HB7.out.2)
      replace HB9 := hide (And.intro (HB9.out.1.below HLz.out HB9.out.1.lt) HB9.out.2)
      replace HB11 := hide (And.intro (HB11.out.1.below HLz.out HB11.out.1.lt) HB11.out.2)
      replace HI6 := hide (HI6.out.step HLz.out)
      replace HI7 := hide (HI7.out.step HLz.out)
      replace HQ := hide (HQ.out.step HLz.out)
      replace HB := hide (Nat.le_trans HB.out HLz.out.size)
      clear hbn HLz hnf
      have c70 : w19.cell? ⟨b7, 0, none⟩ = some (.int .i64 0) := HB7.out.1.cell 0
      have c71 : w19.cell? ⟨b7, 1, none⟩ = some (.slice A11 (k + 2) c11) := HB7.out.1.cell 1
      clear HO hR0 HB9
      have hr1 := HPF.out.rng.2.1
      have HX13 := hide (src_parts HPF.out.len.2 HB13.out.1)
      go_upto_region 22 with fail
      go_wp2_with (first
        | (refine wpList_load_at rfl 32 (.tmp 130) rfl ⟨b13, 0, none⟩ (by rfl) (rgC r1) _ (HX13.out.1) Try.underlying32 rfl (by simp only [rgC, List.length_map, HPF.out.len.2]; exact sizR) ?_)
        | fail)
      refine (srun_any HQ.out.pool HB.out 0 A11 (k + 2) c11 (partsL l cN) HI7.out hc7 (by omega) 1 hz1 r1 HPF.out.len.2 hr1).mono ?_
      rintro e w20 ⟨es, F4, rfl, hp, hev, ho⟩
      rw [HPF.out.snd] at hp hev ⊢
      dsimp only at hp hev ⊢
      replace HB6 := hide (hp.blk HB6.out.1 HB6.out.2)
      replace HB7 := hide (hp.blk HB7.out.1 HB7.out.2)
      replace HB11 := hide (hp.blk HB11.out.1 HB11.out.2)
      replace HB13 := hide (hp.blk HB13.out.1 HB13.out.2)
      replace HI6 := hide (show InsF w20 F4 A5 (k + 1) (wholeL l) from HI6.out.chg hp.chg (fun b q => .inl q) (fun b q => hp.new b q))
      replace HI7 := hide (show InsF w20 F4 A11 (k + 2) (partsL l cN) from HI7.out.chg hp.chg (fun b q => .inl q) (fun b q => hp.new b q))
      replace HQ := hide (HQ.out.trans hp)
      replace HB := hide (Nat.le_trans HB.out hp.chg.size)
      obtain ⟨Ag, cg, hes, _⟩ := hev.form
      rw [List.length_nil] at hes
      subst hes
      have HO := hide ho
      clear hp hev ho
      clear c70 c71 HX13 hr1
      go_upto_region 23 with (first
        | (refine wpList_store_new rfl 40 (.tmp 15) (.tmp 133) rfl _ (srcC rgs (.slice Ag 0 cg) ⟨0, vv, 0, 0⟩) (.agg (srcC rgs (.slice Ag 0 cg) ⟨0, vv, 0, 0⟩).toArray) (by rfl) (by rfl) rfl (by rw [srcC_len HPF.out.len.1]; exact sizS) (by rw [srcC_len HPF.out.len.1]; rfl) (srcC_one HO.out _) ?_
           intro w21 Gz Lz Zz
           have HB15 := hide Gz
           have HLz := hide Lz
           clear Gz Lz Zz)
        | fail)
      have hnf : ¬ F4 w20.heap.size := fun q => by have := (HQ.out.pool.fb _ q).2; omega
      obtain ⟨b15, hbn⟩ : ∃ q, w20.heap.size = q := ⟨_, rfl⟩
      rw [hbn] at HB15 hnf ⊢
      replace HB15 := hide (And.intro HB15.out hnf)
      replace HB6 := hide (And.intro (HB6.out.1.below HLz.out HB6.out.1.lt) HB6.out.2)
      replace HB7 := hide (And.intro (HB7.out.1.below HLz.out HB7.out.1.lt) HB7.out.2)
      replace HB11 := hide (And.intro (HB11.out.1.below HLz.out HB11.out.1.lt) HB11.out.2)
      replace HB13 := hide (And.intro (HB13.out.1.below HLz.out HB13.out.1.lt) HB13.out.2)
      replace HI6 := hide (HI6.out.step HLz.out)
      replace HI7 := hide (HI7.out.step HLz.out)
      replace HQ := hide (HQ.out.step HLz.out)
      replace HB := hide (Nat.le_trans HB.out HLz.out.size)
      clear hbn HLz hnf
      have HX11 := hide (src_parts HPF.out.len.1 HB11.out.1)
      have HX13 := hide (src_parts HPF.out.len.2 HB13.out.1)
      have HX15 := hide (src_parts HPF.out.len.1 HB15.out.1)
      have q1 := eql_regs HPF.out.len.1 HPF.out.rng.1
      have q2 := eql_exit (x := ⟨0, vv, 0, 0⟩) (by show I8 0; unfold I8; omega) HPF.out.rng.2.2 (by show I64 0; unfold I64; omega) (by show I64 0; unfold I64; omega)
      have q3 : ∀ w : World, (binOp .eql 38 (.agg (exC ⟨1, 0, 1, 0⟩).toArray) (.agg #[.int .i8 1, .int .i64 0, .int .i64 1, .int .i64 0])).run Try.prog w = .ok (.bool true) w := fun w => eql_exit (x := ⟨1, 0, 1, 0⟩) (by show I8 1; unfold I8; omega) (by show I64 0; unfold I64; omega) (by show I64 1; unfold I64; omega) (by show I64 0; unfold I64; omega) w
      have q4 := fun (w : World) => build_go w
      have c111 : w21.cell? ⟨b11, 11, none⟩ = some (.slice Ae 0 ce) := src_evs HPF.out.len.1 HB11.out.1
      have c131 : w21.cell? ⟨b13, 11, none⟩ = some (.slice Af 0 cf) := src_evs HPF.out.len.2 HB13.out.1
      clear HO HB6 HB7 HI6 HI7
      go_wp2_with (first
        | (refine wpList_load_atw (by rfl) 32 (.tmp 141) rfl ⟨b15, 0, none⟩ (by rfl) (rgC rgs) _ (HX15.out.1) Try.underlying32 rfl (by simp only [rgC, List.length_map, HPF.out.len.1]; exact sizR) ?_)
        | (refine wpList_load_atw (by rfl) 32 (.tmp 143) rfl ⟨b11, 0, none⟩ (by rfl) (rgC rgs) _ (HX11.out.1) Try.underlying32 rfl (by simp only [rgC, List.length_map, HPF.out.len.1]; exact sizR) ?_)
        | (refine wpList_load_atw (by rfl) 38 (.tmp 148) rfl ⟨b15, 12, none⟩ (by rfl) (exC ⟨0, vv, 0, 0⟩) _ (HX15.out.2) Try.underlying38 rfl (sizEx) ?_)
        | (refine wpList_load_atw (by rfl) 38 (.tmp 150) rfl ⟨b11, 12, none⟩ (by rfl) (exC ⟨0, vv, 0, 0⟩) _ (HX11.out.2) Try.underlying38 rfl (sizEx) ?_)
        | (refine wpList_load_atw (by rfl) 38 (.tmp 156) rfl ⟨b13, 12, none⟩ (by rfl) (exC ⟨1, 0, 1, 0⟩) _ (HX13.out.2) Try.underlying38 rfl (sizEx) ?_)
        | fail)
      refine (wakes_any _).mono ?_
      rintro e w22 ⟨rfl, hb⟩
      have HL22 := hide hb
      clear hb q1 q2 q3 q4 c111 c131
      go_wp2
      go_ret
      exact ⟨rfl, HBW.out.trans ((HW2.out.mono HBW.out.size).trans ((HQ.out.chg.below (B := w.heap.size) (fun b q => Nat.le_trans HBW.out.size (HF.out b q)) (Nat.le_trans HBW.out.size HW2.out.size)).trans (HL22.out.mono (Nat.le_trans HBW.out.size HB.out))))⟩
theorem parts_row (A : Option Addr) (n cap : Nat) (l : List ID) (cut : Int) (hb : (Lit.int .i64 cut).wf = true) (w : World) (hh : InsAt w w.heap.size A n l) (hc : n ≤ cap) (hm : n < 9223372036854775808) :
    Calls Try.prog 3 #[.slice A n cap, .int .i64 cut] w fun e w' => e = .returned (.bool true) ∧ Below w.heap.size w w' :=
  parts_walk A n cap l cut w hh hc hm (by have := bounds_i64 hb; unfold I64; omega)
end Go.Proofs.Ytepagfkkjlbipaa
