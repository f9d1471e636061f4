/-
  instr.Decode: a program out of bytes. Conditions: those written in each statement.
-/
import Derived.Test.YtopanomcbkhbnaaIm
import Derived.Test.YtopanomcbkhbnaaIc
import Derived.Test.YtopanomcbkhbnaaPush
namespace Go.Proofs.Ytopanomcbkhbnaa
open Go.RowKit
set_option linter.unusedVariables false
set_option linter.unusedSimpArgs false
theorem may_wf {x : ID} (h : mayB x = true) : x.wf := by
  obtain ⟨hr, hk⟩ := (may_iff x).1 h
  unfold Rng at hr
  unfold MayK at hk
  unfold ID.wf I8 I64
  rcases hk with ⟨h0, h1, h2, h3, h4, h5, h6, _⟩ | ⟨h0, h1, h2, h3, h4, _, _⟩ | ⟨h0, h1, h2, h3, _, _⟩ | ⟨h0, h1, h2, h3, h4, _⟩ | ⟨h0, h1, h2, h3, _, _⟩ | ⟨h0, h1, h2, h3, _, _⟩ | ⟨h0, h1, h2, h3, _, _⟩ <;> omega
theorem rdO_wf (b : List Int) : (rdO b).wf := by
  unfold rdO rdOk
  split
  · rename_i h
    simp only [Bool.and_eq_true] at h
    exact may_wf h.2.2
  · unfold kz ID.wf I8 I64
    dsimp only
    omega
theorem decI_wf (b : List Int) (n : Nat) : ∀ x ∈ decI b n, x.wf := by
  intro x hx
  unfold decI at hx
  obtain ⟨i, _, rfl⟩ := List.mem_map.1 hx
  exact rdO_wf _
def DecP (b : List Int) (w : World) (e : Ending) (w' : World) : Prop :=
  ∃ A n c, n ≤ c ∧ n ≤ 64 ∧ e = .returned (.tuple #[.agg #[.int .i64 (decR b).1.1, .slice A n c], .int .i64 (decR b).2.1, .int .i64 (decR b).2.2]) ∧ InsAt w' w'.heap.size A n (decR b).1.2 ∧ Below w.heap.size w w'
structure DcF (b : List Int) (ct : Int) (k : Nat) (sv : Value) (A : Option Addr) (n : Nat) (w W : World) : Prop where
  blk : Blk W w.heap.size 24 #[.int .i64 ct, sv]
  own : W.ownsRow (w.heap.size + 1) 32 9 sv k ((decI b k).flatMap ID.cells)
  reads : Reads W w.heap.size 1 A n (b.map (Value.int .u8))
  below : Below w.heap.size w W
section
variable {b : List Int} {ct : Int} {k n : Nat} {sv : Value} {A : Option Addr} {w W V : World}
theorem DcF.lt (h : DcF b ct k sv A n w W) : w.heap.size < W.heap.size := h.blk.lt
theorem DcF.step (h : DcF b ct k sv A n w W) (hb : Below W.heap.size W V) : DcF b ct k sv A n w V :=
  ⟨h.blk.below hb h.lt, own_below h.own hb, h.reads.keep fun p hp => hb.cell (Nat.lt_trans hp h.lt), h.below.trans (hb.mono (Nat.le_of_lt h.lt))⟩
end
def DcRel (b : List Int) (ct : Int) (m : Nat) (A : Option Addr) (n : Nat) (w : World) (i : Value) (wr : World) : Prop :=
  ∃ (k : Nat) (sv : Value), k ≤ m ∧ i = .int .i64 k ∧ (∀ q, q < k → rdE (chunk b q) = 0) ∧ DcF b ct k sv A n w wr
theorem dec_short {b : List Int} (h : ¬ (2 ≤ b.length ∧ b.length % 8 = 2)) : decR b = ((0, []), 0, 30) := by unfold decR; rw [if_pos h]
theorem dec_ctx {b : List Int} (h : 2 ≤ b.length ∧ b.length % 8 = 2) (h2 : 256 < getB (b.take 2)) : decR b = ((0, []), 0, 2) := by unfold decR; rw [if_neg (by simpa using h), if_pos h2]
theorem dec_long {b : List Int} (h : 2 ≤ b.length ∧ b.length % 8 = 2) (h2 : ¬ 256 < getB (b.take 2)) (h3 : inB (decN b) 1 64 = false) : decR b = ((0, []), 0, 3) := by unfold decR; rw [if_neg (by simpa using h), if_neg h2, if_pos h3]
theorem dec_bad {b : List Int} (h : 2 ≤ b.length ∧ b.length % 8 = 2) (h2 : ¬ 256 < getB (b.take 2)) (h3 : inB (decN b) 1 64 = true) {j : Nat} (hj : j < decN b) (hb : ∀ q, q < j → rdE (chunk b q) = 0) (h0 : rdE (chunk b j) ≠ 0) : decR b = ((0, []), (j : Int), rdE (chunk b j)) := by
  have := rdBad_some (b := b) (decN b) 0 j hj (fun q hq => by simpa using hb q hq) (by simpa using h0)
  unfold decR
  rw [if_neg (by simpa using h), if_neg h2, if_neg (by rw [h3]; simp), this]
  simp
theorem dec_end {b : List Int} (h : 2 ≤ b.length ∧ b.length % 8 = 2) (h2 : ¬ 256 < getB (b.take 2)) (h3 : inB (decN b) 1 64 = true) (hb : ∀ q, q < decN b → rdE (chunk b q) = 0) :
    decR b = if (chkP (getB (b.take 2)) (decI b (decN b))).2 ≠ 0 then ((0, []), chkP (getB (b.take 2)) (decI b (decN b))) else ((getB (b.take 2), decI b (decN b)), 0, 0) := by
  have := rdBad_none (b := b) (decN b) 0 (fun q hq => by simpa using hb q hq)
  unfold decR
  rw [if_neg (by simpa using h), if_neg h2, if_neg (by rw [h3]; simp), this]
theorem dec_none {b : List Int} {at_ er : Int} (h : decR b = ((0, []), at_, er)) {w w' : World} (hb : Below w.heap.size w w') : DecP b w (.returned (.tuple #[.agg #[.int .i64 0, .slice none 0 0], .int .i64 at_, .int .i64 er])) w' := by
  unfold DecP
  rw [h]
  exact ⟨none, 0, 0, Nat.le_refl _, by omega, rfl, ⟨rfl, by simp, Reads.none_⟩, hb⟩
set_option maxRecDepth 100000 in
set_option maxHeartbeats 1000000 in
theorem decode_short (b : List Int) (A : Option Addr) (n c : Nat) (w : World) (hl : b.length = n) (hm : n < 9223372036854775808) (hs : ¬ (2 ≤ n ∧ n % 8 = 2)) : Calls Try.prog 26 #[.slice A n c] w (DecP b w) := by
  have HD := hide (dec_short (b := b) (by rw [hl]; exact hs))
  by_cases h2 : 2 ≤ n
  · have h8 : ¬ n % 8 = 2 := fun h => hs ⟨h2, h⟩
    have ha := i64_and_nat n 7 (by omega) (by omega)
    rw [show n &&& 7 = n % 8 from Nat.and_two_pow_sub_one_eq_mod n 3, show ((7 : Nat) : Int) = 7 from rfl] at ha
    have hne : (((n % 8 : Nat) : Int) != 2) = true := by simp; omega
    obtain ⟨r, hr⟩ : ∃ r : Int, ((n % 8 : Nat) : Int) = r := ⟨_, rfl⟩
    rw [hr] at ha hne
    have hq0 : (0 : Int) ≤ (n : Int) - 2 := by omega
    clear hs h8 hr hl
    go_enter Try.func26, Try.ntmps26
    go_wp2
    refine bodyPost_ret (v := .tuple #[.agg #[.int .i64 0, .slice none 0 0], .int .i64 0, .int .i64 30]) (by simp [results, Try.results26, go_sem]) rfl (dec_none HD.out ((Below.refl _ _).alloc (Nat.le_refl _) _))
  · have h01 : n = 0 ∨ n = 1 := by omega
    clear hs hl
    rcases h01 with rfl | rfl
    all_goals
      go_enter Try.func26, Try.ntmps26
      go_wp2
      refine bodyPost_ret (v := .tuple #[.agg #[.int .i64 0, .slice none 0 0], .int .i64 0, .int .i64 30]) (by simp [results, Try.results26, go_sem]) rfl (dec_none HD.out ((Below.refl _ _).alloc (Nat.le_refl _) _))
theorem chunk_len {b : List Int} {m k : Nat} (h : b.length = 2 + 8 * m) (hk : k < m) : (chunk b k).length = 8 := by unfold chunk; rw [List.length_take, List.length_drop]; omega
theorem chunk_bytes {b : List Int} (h : IsBytes b) (k : Nat) : IsBytes (chunk b k) := (h.drop _).take _
set_option maxRecDepth 100000 in
set_option maxHeartbeats 2000000 in
theorem decode_any (b : List Int) (A : Option Addr) (n c : Nat) (w : World) (hl : b.length = n) (hr : Reads w w.heap.size 1 A n (b.map (Value.int .u8))) (hb : IsBytes b) (hc : n ≤ c) (hm : n < 9223372036854775808) : Calls Try.prog 26 #[.slice A n c] w (DecP b w) := by
  by_cases hs : 2 ≤ n ∧ n % 8 = 2
  · obtain ⟨m, hnm⟩ : ∃ m, n = 2 + 8 * m := ⟨(n - 2) / 8, by omega⟩
    have hdn : decN b = m := by unfold decN; rw [hl]; omega
    have hsb : 2 ≤ b.length ∧ b.length % 8 = 2 := by rw [hl]; exact hs
    have ha := i64_and_nat n 7 (by omega) (by omega)
    rw [show n &&& 7 = n % 8 from Nat.and_two_pow_sub_one_eq_mod n 3, hs.2, show ((7 : Nat) : Int) = 7 from rfl, show ((2 : Nat) : Int) = 2 from rfl] at ha
    have hdv : ((n : Int) - 2) / 8 = (m : Int) := by omega
    have hq0 : (0 : Int) ≤ (n : Int) - 2 := by omega
    have h2n : 2 ≤ n := hs.1
    have hl2 : (b.take 2).length = 2 := by rw [List.length_take, hl]; omega
    have hg := getB_bd (b.take 2) (hb.take 2)
    rw [hl2, show (256 : Int) ^ 2 = 65536 from rfl] at hg
    obtain ⟨ct, hct⟩ : ∃ v, getB (b.take 2) = v := ⟨_, rfl⟩
    rw [hct] at hg
    obtain ⟨g0, g1⟩ := hg
    have HGT := hide (fun (W : World) (h : Reads W w.heap.size 1 A 2 ((b.take 2).map (Value.int .u8))) => get_any (b.take 2) w.heap.size A 2 c W hl2 h (hb.take 2) (by omega))
    have HR2 := hide (by simpa using (hr.take_g (m := 2) h2n) : Reads w w.heap.size 1 A 2 ((b.take 2).map (Value.int .u8)))
    have HR := hide hr
    have HB := hide hb
    have HL := hide hl
    have HNM := hide hnm
    have HDN := hide hdn
    have HSB := hide hsb
    have HCT := hide hct
    clear hs hnm hdn hsb hct hr hb hl
    go_enter Try.func26, Try.ntmps26
    go_wp2_with fail
    refine (HGT.out _ (HR2.out.alloc (Nat.le_refl _) _)).mono ?_
    rintro e w' ⟨rfl, rfl⟩
    rw [HCT.out]
    by_cases hct : 256 < ct
    · have HD := hide (dec_ctx HSB.out (by rw [HCT.out]; exact hct))
      go_wp2
      refine bodyPost_ret (v := .tuple #[.agg #[.int .i64 0, .slice none 0 0], .int .i64 0, .int .i64 2]) (by simp [results, Try.results26, go_sem]) rfl (dec_none HD.out ((Below.refl _ _).alloc (Nat.le_refl _) _))
    · have hct' : ct ≤ 256 := by omega
      cases hin : inB m 1 64
      · have HD := hide (dec_long HSB.out (by rw [HCT.out]; exact hct) (by rw [HDN.out]; exact hin))
        clear hct
        go_wp2_with fail
        refine (within64 _ _ _ _).mono ?_; rintro e w' ⟨rfl, rfl⟩; rw [hin]
        go_wp2
        refine bodyPost_ret (v := .tuple #[.agg #[.int .i64 0, .slice none 0 0], .int .i64 0, .int .i64 3]) (by simp [results, Try.results26, go_sem]) rfl (dec_none HD.out ((Below.refl _ _).alloc (Nat.le_refl _) _))
      · have HIN := hide (show inB (decN b) 1 64 = true by rw [HDN.out]; exact hin)
        have HCT2 := hide (show ¬ 256 < getB (b.take 2) by rw [HCT.out]; exact hct)
        have hmi := inB_iff.1 hin
        have hm1 : 1 ≤ m := by omega
        have hm2 : m ≤ 64 := by omega
        clear hct hmi
        go_wp2_with fail
        refine (within64 _ _ _ _).mono ?_; rintro e w' ⟨rfl, rfl⟩; rw [hin]
        clear hin
        go_wp2_with fail
        refine (HGT.out _ (HR2.out.alloc (Nat.le_refl _) _)).mono ?_
        rintro e w' ⟨rfl, rfl⟩
        rw [HCT.out]
        go_wp2_with fail
        obtain ⟨iI, hiI, hzI, hsI, hbI⟩ := info_parts infI
        have II := hide (And.intro hiI (And.intro hzI (And.intro hsI hbI)))
        clear hiI hzI hsI hbI
        go_loopw [41] (fun i wr => DcRel b ct m A n w i wr) (fun i _ => m - (intOf i).toNat)
        case atStart => exact ⟨0, .slice none 0 0, by omega, rfl, by omega, Blk.new w _ _, ⟨rfl, .inl ⟨rfl, rfl⟩⟩, HR.out.alloc (Nat.le_refl _) _, (Below.refl _ _).alloc (Nat.le_refl _) _⟩
        case round =>
          obtain ⟨k, sv, hk, rfl, hno, hf⟩ := hrel
          have HN := hide hno
          have HF := hide hf
          clear hno hf
          by_cases hlt : k < m
          · have hlb : 2 + 8 * k ≤ 10 + 8 * k := by omega
            have hhb : 10 + 8 * k ≤ n := by have := HNM.out; omega
            have hcl := chunk_len (b := b) (m := m) (k := k) (by rw [HL.out]; exact HNM.out) hlt
            go_wp2_with (first
              | (refine wpList_fromto rfl 36 5 (.tmp 45) _ _ rfl Try.underlying36 1 (by kernel_rfl) A n c (2 + 8 * k) (10 + 8 * k) .i64 .i64 (by rfl) (by rfl) (by rfl) hlb hhb hc w.heap.size _ HF.out.reads ?_; intro A3 R3; have HR3 := hide R3; clear R3)
              | fail)
            refine (read_any (chunk b k) A3 _ _ _ (hcl.trans (by omega)) (by
              have := HR3.out.more (Nat.le_of_lt HF.out.lt)
              unfold chunk
              simpa [show 10 + 8 * k - (2 + 8 * k) = 8 by omega] using this) (chunk_bytes HB.out k) (by omega) (by omega)).mono ?_
            rintro e w5 ⟨rfl, hb5⟩
            have HF5 := hide (HF.out.step hb5)
            clear hb5
            obtain ⟨x, hx⟩ : ∃ x, rdO (chunk b k) = x := ⟨_, rfl⟩
            obtain ⟨er, her⟩ : ∃ x, rdE (chunk b k) = x := ⟨_, rfl⟩
            rw [hx, her]
            have HX := hide hx
            have HER := hide her
            clear hx her hcl
            have hlf := HF5.out.lt
            by_cases her0 : er = 0
            · have be : (er != 0) = false := by simp [her0]
              have HE0 := hide her0
              clear her0
              have c1 : w5.cell? ⟨w.heap.size, 1, none⟩ = some sv := HF5.out.blk.cell 1
              go_wp2_with (first
                | (refine wpList_new rfl rfl 32 (.tmp 7) (.tmp 54) rfl rfl iI _ (.agg x.cells.toArray) x.cells.toArray II.out.1 II.out.2.1 (by rw [II.out.2.2.1]; rfl) rfl (by rw [II.out.2.2.1]; rfl) (all_one x.one) (by rfl) (by rfl) ?_
                   intro w6 g6 G6 X6 L6
                   have HF6 := hide (HF5.out.step L6)
                   have HX6 := hide X6
                   have c16 : w6.cell? ⟨w.heap.size, 1, none⟩ = some sv := HF6.out.blk.cell 1
                   clear X6 L6 c1)
                | (refine wpList_load_at rfl 32 (.tmp 7) rfl ⟨g6, 0, none⟩ rfl x.cells _ (blk_list HX6.out) Try.underlying32 rfl sizI ?_)
                | (refine wpList_push rfl rfl 22 32 (.tmp 63) (.tmp 62) (.tmp 64) rfl rfl (w.heap.size + 1) 9 24 iI _ (.agg x.cells.toArray) sv x.cells _ k Try.underlying22 II.out.1 II.out.2.1 II.out.2.2.1 II.out.2.2.2 rfl (by omega) (by omega) (by rfl) rfl rfl x.one HF6.out.own HF6.out.lt (by unfold maxLen; omega) (by omega) (by rfl) (by rfl) ?_
                   intro v7 w7 g7 G7 O7 B7 P7
                   obtain ⟨A7, c7, rfl, hc7, hr7⟩ := own_slice O7 (by omega)
                   have hneb : (some w.heap.size : Option Nat) ≠ sv.ownBlock := fun e => own_blk_ne HF6.out.own HF6.out.blk (by decide) e.symm
                   have hb7 := HF6.out.blk.grown P7 hneb
                   have c17 : w7.cell? ⟨w.heap.size, 1, none⟩ = some sv := hb7.cell 1
                   have f17 : w7.frozen? ⟨w.heap.size, 1, none⟩ = false := hb7.frozen 1
                   have HB7 := hide hb7
                   have HO7 := hide O7
                   have HR7 := hide (HF6.out.reads.keep (w' := w7) (fun p hp => B7.cell (Nat.lt_succ_of_lt hp)))
                   have HL7 := hide (HF6.out.below.trans (B7.mono (Nat.le_succ _)))
                   clear O7 B7 P7 hr7 hb7 c16 hneb))
              go_roundw
              case measure => simp [intOf]; omega
              case rel =>
                refine ⟨k + 1, _, by omega, by go_num, fun q hq => ?_, HB7.out.set_ 1 _, ?_, HR7.out.setCell (Nat.le_refl _) _, HL7.out.setCell (Nat.le_refl _) _⟩
                · rcases Nat.lt_or_ge q k with h | h
                  · exact HN.out q h
                  · obtain rfl : q = k := by omega
                    rw [HER.out, HE0.out]
                · rw [decI_succ, List.flatMap_append, HX.out]
                  refine World.ownsRow.kept ?_ (only_setCell (World.grownBy.refl w7 (some w.heap.size)) (.inl rfl) _) (.inr (fun e => own_blk_ne HO7.out HB7.out (by decide) e))
                  simpa using HO7.out
            · have be : (er != 0) = true := by simp [her0]
              have HD := hide (show decR b = ((0, []), (k : Int), er) by
                have := dec_bad HSB.out (by have := HCT2.out; omega) HIN.out (j := k) (by rw [HDN.out]; exact hlt) HN.out (by rw [HER.out]; exact her0)
                rw [HER.out] at this
                exact this)
              clear her0
              go_wp2_with (first
                | (refine wpList_new rfl rfl 32 (.tmp 7) (.tmp 54) rfl rfl iI _ (.agg x.cells.toArray) x.cells.toArray II.out.1 II.out.2.1 (by rw [II.out.2.2.1]; rfl) rfl (by rw [II.out.2.2.1]; rfl) (all_one x.one) (by rfl) (by rfl) ?_
                   intro w6 g6 G6 X6 L6
                   have HF6 := hide (HF5.out.step L6)
                   clear X6 L6)
                | (refine wpList_store_at rfl 24 (.tmp 2) (.tmp 58) rfl w.heap.size 0 24 [.int .i64 ct, sv] [.int .i64 0, .slice none 0 0] _ HF6.out.blk (by rfl) (by rfl) rfl (by kernel_rfl) (by simp) (by intro u hu; simp at hu; rcases hu with rfl | rfl <;> rfl) ?_
                   intro w8 X8 G8 S8
                   have c80 : w8.cell? ⟨w.heap.size, 0, none⟩ = some (.int .i64 0) := X8.cell 0
                   have c81 : w8.cell? ⟨w.heap.size, 1, none⟩ = some (.slice none 0 0) := X8.cell 1
                   have HB8 := hide (HF6.out.below.grown G8 (Nat.le_of_lt HF6.out.lt) (fun g e => by injection e with e; omega))
                   clear X8 G8 S8))
              refine bodyPost_ret (v := .tuple #[.agg #[.int .i64 0, .slice none 0 0], .int .i64 (k : Int), .int .i64 er]) (by simp [results, Try.results26, go_sem, c80, c81]) rfl (dec_none HD.out HB8.out)
          · obtain rfl : k = m := by omega
            clear hk hlt
            obtain ⟨AL, cL, rfl, hcL, hrL⟩ := own_slice HF.out.own (by omega)
            have HI := hide (show InsAt wr wr.heap.size AL k (decI b k) from ⟨decI_len b k, decI_wf b k, hrL⟩)
            clear hrL
            have hsz0 := HF.out.lt
            have hend := dec_end HSB.out (by have := HCT2.out; omega) HIN.out (by rw [HDN.out]; exact HN.out)
            rw [HDN.out, HCT.out] at hend
            have HEND := hide hend
            clear hend
            obtain ⟨ci, hci⟩ : ∃ v, (chkP ct (decI b k)).1 = v := ⟨_, rfl⟩
            obtain ⟨ce, hce⟩ : ∃ v, (chkP ct (decI b k)).2 = v := ⟨_, rfl⟩
            have HCI := hide hci
            have HCE := hide hce
            clear hci hce
            by_cases hz : ce = 0
            all_goals
              first
                | (have be : (ce != 0) = true := by simp [hz])
                | (have be : (ce != 0) = false := by simp [hz])
              have HZ := hide hz
              clear hz
              go_wp2_with (first
                | (refine wpList_load_at rfl 24 (.tmp 2) rfl ⟨w.heap.size, 0, none⟩ rfl [.int .i64 ct, .slice AL k cL] _ (blk_list HF.out.blk) Try.underlying24 rfl (by kernel_rfl) ?_)
                | (go_at_call 10
                   refine (check_any ct AL k cL _ _ HI.out hcL (by omega)).mono ?_
                   rintro e w7 ⟨rfl, hb7⟩
                   rw [HCI.out, HCE.out]
                   have HF7 := hide (HF.out.step hb7)
                   clear hb7)
                | (refine wpList_load_at rfl 24 (.tmp 2) rfl ⟨w.heap.size, 0, none⟩ rfl [.int .i64 ct, .slice AL k cL] _ (blk_list HF7.out.blk) Try.underlying24 rfl (by kernel_rfl) ?_)
                | (refine wpList_store_at rfl 24 (.tmp 2) (.tmp 75) rfl w.heap.size 0 24 [.int .i64 ct, .slice AL k cL] [.int .i64 0, .slice none 0 0] _ HF7.out.blk (by rfl) (by rfl) rfl (by kernel_rfl) (by simp) (by intro u hu; simp at hu; rcases hu with rfl | rfl <;> rfl) ?_
                   intro w8 X8 G8 S8
                   have c80 : w8.cell? ⟨w.heap.size, 0, none⟩ = some (.int .i64 0) := X8.cell 0
                   have c81 : w8.cell? ⟨w.heap.size, 1, none⟩ = some (.slice none 0 0) := X8.cell 1
                   have HB8 := hide (HF7.out.below.grown G8 (Nat.le_of_lt HF7.out.lt) (fun g e => by injection e with e; omega))
                   clear X8 G8 S8)
                | (refine wpList_store_at rfl 24 (.tmp 2) (.tmp 78) rfl w.heap.size 0 24 [.int .i64 ct, .slice AL k cL] [.int .i64 ct, .slice AL k cL] _ HF7.out.blk (by rfl) (by rfl) rfl (by kernel_rfl) (by simp) (by intro u hu; simp at hu; rcases hu with rfl | rfl <;> rfl) ?_
                   intro w8 X8 G8 S8
                   have c80 : w8.cell? ⟨w.heap.size, 0, none⟩ = some (.int .i64 ct) := X8.cell 0
                   have c81 : w8.cell? ⟨w.heap.size, 1, none⟩ = some (.slice AL k cL) := X8.cell 1
                   have HB8 := hide (HF7.out.below.grown G8 (Nat.le_of_lt HF7.out.lt) (fun g e => by injection e with e; omega))
                   have HG8 := hide G8
                   clear X8 G8 S8))
            · refine bodyPost_ret (v := .tuple #[.agg #[.int .i64 ct, .slice AL k cL], .int .i64 0, .int .i64 0]) (by simp [results, Try.results26, go_sem, c80, c81]) rfl ?_
              have h0 := HEND.out
              rw [HCE.out, if_neg (by simp [HZ.out])] at h0
              have ho8 := HF7.out.own.kept HG8.out (.inr (fun e => own_blk_ne HF7.out.own HF7.out.blk (by decide) e))
              obtain ⟨A9, c9, e9, _, h9⟩ := own_slice ho8 (by omega)
              injection e9 with e9
              subst e9
              unfold DecP
              rw [h0]
              exact ⟨AL, k, cL, hcL, hm2, rfl, ⟨decI_len b k, decI_wf b k, h9⟩, HB8.out⟩
            · refine bodyPost_ret (v := .tuple #[.agg #[.int .i64 0, .slice none 0 0], .int .i64 ci, .int .i64 ce]) (by simp [results, Try.results26, go_sem, c80, c81]) rfl ?_
              have h0 := HEND.out
              rw [if_pos (by rw [HCE.out]; exact HZ.out), show chkP ct (decI b k) = (ci, ce) from by rw [← HCI.out, ← HCE.out]] at h0
              exact dec_none h0 HB8.out
  · exact decode_short b A n c w hl hm hs
end Go.Proofs.Ytopanomcbkhbnaa
