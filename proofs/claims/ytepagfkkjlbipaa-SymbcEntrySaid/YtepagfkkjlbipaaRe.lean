/-
  Contracts of symbc's each, Start, Entry. Conditions: those written in each statement.
-/
import Derived.Test.YtepagfkkjlbipaaLah
import Derived.Test.YtepagfkkjlbipaaKai
import Derived.Deep.DeepCutAuto
namespace Go.Proofs.Ytepagfkkjlbipaa
open Go.RowKit
set_option linter.unusedVariables false
set_option linter.unusedSimpArgs false
set_option maxRecDepth 100000
def rgC (l : List Int) : List Value := l.map (Value.int .i64)
/-- The first k terms, made one after the other; then the first error. -/
def eachK (st : PS → Nat → RS) (p : PS) : Nat → PS × List Int × Int
  | 0 => (p, [], 0)
  | k + 1 => let r := eachK st p k; if r.2.2 = 0 then let s := st r.1 k; (s.1, r.2.1 ++ [s.2.1], s.2.2) else r
def eachV (st : PS → Nat → RS) (p : PS) : PS × List Int × Int := let r := eachK st p 11; if r.2.2 = 0 then r else (r.1, zeroRg, r.2.2)
theorem eachK_succ {st : PS → Nat → RS} {p : PS} {k : Nat} (h : (eachK st p k).2.2 = 0) : eachK st p (k + 1) = ((st (eachK st p k).1 k).1, (eachK st p k).2.1 ++ [(st (eachK st p k).1 k).2.1], (st (eachK st p k).1 k).2.2) := by
  rw [eachK]
  dsimp only
  rw [if_pos h]
theorem eachK_len {st : PS → Nat → RS} {p : PS} : ∀ {k : Nat}, (eachK st p k).2.2 = 0 → (eachK st p k).2.1.length = k
  | 0, _ => rfl
  | k + 1, h => by
    by_cases h0 : (eachK st p k).2.2 = 0
    · rw [eachK_succ h0]
      simp [eachK_len h0]
    · rw [eachK] at h
      dsimp only at h
      rw [if_neg h0] at h
      exact absurd h h0
theorem eachK_bad {st : PS → Nat → RS} {p : PS} {k j : Nat} (h : (eachK st p k).2.2 ≠ 0) (hj : k ≤ j) : eachK st p j = eachK st p k := by
  obtain ⟨d, rfl⟩ : ∃ d, j = k + d := ⟨j - k, by omega⟩
  induction d with
  | zero => rfl
  | succ d ih =>
    rw [← Nat.add_assoc, eachK]
    dsimp only
    rw [ih (by omega), if_neg h]
theorem eachV_len (st : PS → Nat → RS) (p : PS) : ((eachV st p).2.1.map (Value.int .i64)).length = 11 := by
  rw [List.length_map]
  unfold eachV
  dsimp only
  split
  · rename_i h; exact eachK_len h
  · rfl
/-- What stands in the array behind k rounds. -/
def outC (l : List Int) : List Value := rgC (l ++ List.replicate (11 - l.length) 0)
theorem outC_len {l : List Int} (h : l.length ≤ 11) : (outC l).length = 11 := by unfold outC rgC; simp; omega
theorem outC_set {l : List Int} (h : l.length < 11) (n : Int) : (outC l).set l.length (.int .i64 n) = outC (l ++ [n]) := by
  unfold outC rgC
  rw [List.map_append, List.map_append, List.set_append_right _ _ (by simp)]
  obtain ⟨d, hd⟩ : ∃ d, 11 - l.length = d + 1 := ⟨10 - l.length, by omega⟩
  rw [hd, List.length_append, show 11 - (l.length + [n].length) = d by simp; omega]
  simp [List.replicate_succ]
theorem outC_full {l : List Int} (h : l.length = 11) : outC l = rgC l := by unfold outC; simp [h]
theorem rgC_one (l : List Int) : ∀ u ∈ rgC l, u.oneCell' = true := by
  intro u hu
  obtain ⟨_, _, rfl⟩ := List.mem_map.1 hu
  rfl
theorem sizR : (Try.prog.info? 32).map (·.size) = some 11 := by kernel_rfl
theorem zeroR : ∀ w : World, (zeroValue 32).run Try.prog w = .ok (.agg (rgC zeroRg).toArray) w := fun w => by kernel_rfl
theorem build_zr (w : World) : (Instr.build 32 #[]).run Try.prog w = .ok (.agg (rgC zeroRg).toArray) w := by kernel_rfl
section
variable {base g : Nat} {F : Nat → Prop} {p : PS} {w : World}
/-- A variable of the function's own is written. -/
theorem PG.own {F1 : Nat → Prop} {p1 : PS} {w1 w2 : World} {b : Nat} (h : PG base g F w F1 p1 w1) (hb : ¬ F1 b) (hw : w.heap.size ≤ b) (hc : Chg (fun k => k = b) w1 w2) : PG base g F w F1 p1 w2 :=
  ⟨h.pool.chg hc (fun k q e => hb (e ▸ q)), ⟨hc.os.trans h.chg.os, hc.tape.trans h.chg.tape, hc.output.trans h.chg.output, Nat.le_trans h.chg.size hc.size, fun k hk hn => (hc.block k (Nat.lt_of_lt_of_le hk h.chg.size) (by omega)).trans (h.chg.block k hk hn)⟩, h.new⟩
theorem outC_at {l : List Int} (h : l.length < 11) : (outC l)[l.length]? = some (.int .i64 0) := by
  unfold outC rgC
  rw [List.map_append, List.getElem?_append_right (by simp), List.length_map, Nat.sub_self]
  obtain ⟨d, hd⟩ : ∃ d, 11 - l.length = d + 1 := ⟨10 - l.length, by omega⟩
  rw [hd]
  rfl
def EachP (base g : Nat) (F : Nat → Prop) (w : World) (r : PS × List Int × Int) (e : Ending) (w' : World) : Prop := e = .returned (.tuple #[.agg (rgC r.2.1).toArray, .int .i64 r.2.2]) ∧ ∃ F', PG base g F w F' r.1 w'
set_option maxHeartbeats 4000000 in
theorem each_any (h : PoolAt w base F g p) (hbase : base ≤ w.heap.size) (f : Nat) (caps : Array Value) (he : EntersB f) (st : PS → Nat → RS)
    (H : ∀ (i : Nat), i < 11 → ∀ (W : World) (F1 : Nat → Prop) (p1 : PS), PG base g F w F1 p1 W → base ≤ W.heap.size → Calls Try.prog f (#[.int .i64 (i : Int)] ++ caps) W (RetP base g F1 W (st p1 i))) :
    Calls Try.prog 18 #[.func (.func f) #[] caps] w (EachP base g F w (eachV st p)) := by
  have he' : ∀ args w, (callFunc f args).run Try.prog w = .ok (.enter f args) w := he
  have hb0 : Below w.heap.size w (w.alloc (.cells (rgC zeroRg).toArray 32)) := (Below.refl _ w).alloc (Nat.le_refl _) _
  have HP := hide (PG.of_below h hb0)
  have HB := hide (show Blk (w.alloc (.cells (rgC zeroRg).toArray 32)) w.heap.size 32 (outC []).toArray from Blk.new w 32 (rgC zeroRg).toArray)
  have HNF := hide (fun q => by have := (h.fb _ q).2; omega : ¬ F w.heap.size)
  have HH := hide H
  have HBS := hide hbase
  have zr := zeroR
  clear h H hb0 hbase he
  go_enter Try.func18, Try.ntmps18
  go_wp2
  obtain ⟨bx, hbx⟩ : ∃ k, w.heap.size = k := ⟨_, rfl⟩
  rw [hbx] at HB HNF ⊢
  have HBX := hide hbx
  clear hbx
  generalize w.alloc (.cells (rgC zeroRg).toArray 32) = w0 at HP HB ⊢
  go_loopw [3, 5] (fun v i wr => ∃ k : Nat, k ≤ 11 ∧ i = .int .i64 k ∧ v = .int .i64 0 ∧ Hid ((eachK st p k).2.2 = 0) ∧ ∃ F', PG base g F w F' (eachK st p k).1 wr ∧ Blk wr bx 32 (outC (eachK st p k).2.1).toArray ∧ ¬ F' bx) (fun _ i _ => 11 - (intOf i).toNat)
  case atStart => exact ⟨0, by omega, rfl, rfl, hide rfl, F, HP.out, HB.out, HNF.out⟩
  case round =>
    obtain ⟨k, hk, rfl, rfl, hr0, F', hp, hbk, hnf⟩ := hrel
    clear HP HB HNF
    have HRL := hide (eachK_len hr0.out)
    have hsz := hp.chg.size
    by_cases hlt : k < 11
    · have HSU := hide (eachK_succ (st := st) (p := p) hr0.out)
      obtain ⟨r, hr⟩ : ∃ r, eachK st p k = r := ⟨_, rfl⟩
      rw [hr] at hr0 hp hbk HRL HSU
      obtain ⟨s, hs⟩ : ∃ s, st r.1 k = s := ⟨_, rfl⟩
      have HC := hide (by have := HH.out k hlt wr F' r.1 hp (Nat.le_trans HBS.out hsz); rw [hs] at this; exact this)
      rw [hs] at HSU
      obtain ⟨rp, rl, re⟩ := r
      obtain ⟨sp, sn, se⟩ := s
      dsimp only at hr0 hp hbk HRL HSU HC
      have HP := hide hp
      have HB := hide (And.intro hbk hnf)
      clear hp hbk hnf hr hs hr0 hsz
      go_wp2_with fail
      refine HC.out.mono ?_
      rintro e w1 ⟨rfl, F2, hp2⟩
      have HP2 := hide (HP.out.trans hp2)
      have HB2 := hide (hp2.blk HB.out.1 HB.out.2)
      clear hp2 HC HP HB
      have ck : w1.cell? ⟨bx, k, none⟩ = some (.int .i64 0) := by
        rw [HB2.out.1.cell k, List.getElem?_toArray]
        have := outC_at (l := rl) (by rw [HRL.out]; exact hlt)
        rw [HRL.out] at this
        exact this
      have fk := HB2.out.1.frozen k
      have HB3 := hide (show Blk (w1.setCell ⟨bx, k, none⟩ (.int .i64 sn)) bx 32 (outC (rl ++ [sn])).toArray by
        have h1 := HB2.out.1.set_ k (.int .i64 sn)
        rw [List.setIfInBounds_toArray] at h1
        have h2 := outC_set (l := rl) (by rw [HRL.out]; exact hlt) sn
        rw [HRL.out] at h2
        rw [h2] at h1
        exact h1)
      have HP3 := hide (HP2.out.own (w2 := w1.setCell ⟨bx, k, none⟩ (.int .i64 sn)) HB2.out.2 (by have := HBX.out; omega) (chg_setCell (b := bx) rfl _ rfl))
      cases hse : (se != 0)
      · go_wp2
        go_roundw
        case measure => simp [intOf]; omega
        case rel =>
          refine ⟨k + 1, by omega, by go_num, by simpa using hse, ?_, F2, ?_, ?_, HB2.out.2⟩
          · rw [HSU.out]; exact hide (by simpa using hse)
          · rw [HSU.out]; exact HP3.out
          · rw [HSU.out]; exact HB3.out
      · have HV := hide (show eachV st p = (sp, zeroRg, se) by
          have hne : (eachK st p (k + 1)).2.2 ≠ 0 := by rw [HSU.out]; simpa using hse
          unfold eachV
          dsimp only
          rw [eachK_bad hne (by omega), if_neg hne, HSU.out])
        have qb := build_zr
        go_wp2_with (first
          | (refine wpList_store_at rfl 32 (.tmp 2) (.tmp 18) rfl bx 0 32 _ (rgC zeroRg) (.agg (rgC zeroRg).toArray) HB3.out (by rfl) (by rfl) rfl sizR (by rw [outC_len (by rw [List.length_append, HRL.out]; simp; omega)]; simp [rgC, zeroRg]) (rgC_one _) ?_
             intro wq hBq hgq hsq
             have HBQ := hide hBq
             have HPQ := hide (HP3.out.own HB2.out.2 (by have := HBX.out; omega) (Chg.of_grown hgq (fun k e => .inl (by injection e with e; exact e.symm))))
             clear hBq hgq hsq)
          | fail)
        have hov : overC (outC (rl ++ [sn])) 0 (rgC zeroRg) = rgC zeroRg := by
          unfold overC
          rw [List.take_zero, List.nil_append, Nat.zero_add, List.drop_of_length_le (by rw [outC_len (by rw [List.length_append, HRL.out]; simp; omega)]; simp [rgC, zeroRg]), List.append_nil]
        have hx8 := HBQ.out
        rw [hov] at hx8
        have hrl := run_loadVar_at (P := Try.prog) wq ⟨bx, 0, none⟩ 32 (rgC zeroRg) _ (blk_list hx8) Try.underlying32 rfl sizR
        refine bodyPost_ret (v := .tuple #[.agg (rgC zeroRg).toArray, .int .i64 se]) ?_ rfl ⟨by rw [HV.out], F2, by rw [HV.out]; exact HPQ.out⟩
        simp [results, Try.results18, Act.put, asAddr, Result.andThen, hrl]
    · obtain rfl : k = 11 := by omega
      have HV := hide (show eachV st p = eachK st p 11 by unfold eachV; dsimp only; rw [if_pos hr0.out])
      have HE0 := hide (show (eachV st p).2.2 = 0 by rw [HV.out]; exact hr0.out)
      have hfull := outC_full HRL.out
      rw [hfull] at hbk
      rw [← HV.out] at hp hbk HRL
      obtain ⟨r, hr⟩ : ∃ r, eachV st p = r := ⟨_, rfl⟩
      rw [hr] at hp hbk HRL HE0 ⊢
      obtain ⟨rp, rl, re⟩ := r
      dsimp only at hp hbk HRL HE0
      have HP := hide hp
      have HVR := hide hr
      have HB := hide hbk
      have HLR := hide (show (rgC rl).length = 11 by unfold rgC; rw [List.length_map]; exact HRL.out)
      have hnf2 := hide hnf
      clear hp hbk hr hr0 hfull hsz HV hnf
      go_wp2_with (first
        | (refine wpList_load_at rfl 32 (.tmp 2) rfl ⟨bx, 0, none⟩ (by rfl) (rgC rl) _ (blk_list HB.out) Try.underlying32 rfl (by rw [HLR.out]; exact sizR) ?_)
        | (refine wpList_store_at rfl 32 (.tmp 2) (.tmp 21) rfl bx 0 32 _ (rgC rl) (.agg (rgC rl).toArray) HB.out (by rfl) (by rfl) rfl (by rw [HLR.out]; exact sizR) (by omega) (rgC_one _) ?_
           intro wq hBq hgq hsq
           have HBQ := hide hBq
           have HPQ := hide (HP.out.own hnf2.out (by have := HBX.out; omega) (Chg.of_grown hgq (fun k e => .inl (by injection e with e; exact e.symm))))
           clear hBq hgq hsq)
        | fail)
      have hov : overC (rgC rl) 0 (rgC rl) = rgC rl := by
        unfold overC
        rw [List.take_zero, List.nil_append, Nat.zero_add, List.drop_of_length_le (Nat.le_refl _), List.append_nil]
      have hx8 := HBQ.out
      rw [hov] at hx8
      have hrl := run_loadVar_at (P := Try.prog) wq ⟨bx, 0, none⟩ 32 (rgC rl) _ (blk_list hx8) Try.underlying32 rfl (by rw [HLR.out]; exact sizR)
      refine bodyPost_ret (v := .tuple #[.agg (rgC rl).toArray, .int .i64 0]) ?_ rfl ⟨by rw [HVR.out, HE0.out], _, by rw [HVR.out]; exact HPQ.out⟩
      simp [results, Try.results18, Act.put, asAddr, Result.andThen, hrl]
/-! ### Start, Entry -/
def startS (p : PS) (i : Nat) : RS := putR p (varT (i : Int) 64)
def firstV (i : Nat) : Int := if i = 1 then 2097152 else if i = 10 then 3145792 else 0
def entryS (p : PS) (i : Nat) : RS := putR p (constT (firstV i))
theorem enters_start : EntersB 19 := enters_of Try.func19 (by kernel_rfl) rfl
theorem enters_entry : EntersB 28 := enters_of Try.func28 (by kernel_rfl) rfl
theorem start1_any (i : Nat) (hi : i < 11) (W : World) (F1 : Nat → Prop) (p1 : PS) (bp : Nat) (h : PoolAt W base F1 g p1) (hbase : base ≤ W.heap.size) (hb : Blk W bp 30 #[.pointer (some ⟨g, 0, none⟩)]) :
    Calls Try.prog 19 #[.int .i64 (i : Int), .pointer (some ⟨bp, 0, none⟩)] W (RetP base g F1 W (startS p1 i)) := by
  have c0 := hb.cell 0
  simp at c0
  have HP := hide h
  clear h hb
  go_enter Try.func19, Try.ntmps19
  go_wp2_with fail
  refine (var_any (i : Int) 64 (by omega) (by omega) (by unfold I8; omega) _ HP.out hbase).mono ?_
  rintro e w1 ⟨rfl, hr⟩
  have HR := hide hr
  clear hr
  go_wp2
  go_ret2
  exact ⟨rfl, HR.out⟩
set_option maxHeartbeats 1000000 in
theorem start_any (h : PoolAt w base F g p) (hbase : base ≤ w.heap.size) : Calls Try.prog 9 #[.pointer (some ⟨g, 0, none⟩)] w (EachP base g F w (eachV startS p)) := by
  have zr := zeroR
  obtain ⟨w1, hw1⟩ : ∃ v, (w.alloc (.cells #[.pointer (some ⟨g, 0, none⟩)] 30)).alloc (.cells (rgC zeroRg).toArray 32) = v := ⟨_, rfl⟩
  have hb0 : Below w.heap.size w w1 := by rw [← hw1]; exact ((Below.refl _ w).alloc (Nat.le_refl _) _).alloc (by simp) _
  have HP := hide (PG.of_below h hb0)
  have HB := hide (show Blk w1 w.heap.size 30 #[.pointer (some ⟨g, 0, none⟩)] by rw [← hw1]; exact (Blk.new w 30 #[.pointer (some ⟨g, 0, none⟩)]).alloc _)
  have HO := hide (show Blk w1 (w.heap.size + 1) 32 (rgC zeroRg).toArray by rw [← hw1]; exact Blk.new (w.alloc (.cells #[.pointer (some ⟨g, 0, none⟩)] 30)) 32 (rgC zeroRg).toArray |> fun q => by simpa using q)
  have HNF := hide (fun b (hb : w.heap.size ≤ b) q => by have := (h.fb b q).2; omega : ∀ b, w.heap.size ≤ b → ¬ F b)
  obtain ⟨r, hr⟩ : ∃ r, eachV startS p = r := ⟨_, rfl⟩
  have HC := hide (by
    have := each_any (HP.out.pool) (Nat.le_trans hbase HP.out.size) 19 #[.pointer (some ⟨w.heap.size, 0, none⟩)] enters_start startS (fun i hi W F1 p1 hp hb => start1_any i hi W F1 p1 w.heap.size hp.pool hb (hp.blk HB.out (HNF.out _ (Nat.le_refl _))).1)
    rw [hr] at this
    exact this)
  rw [hr]
  have HLR := hide (show (rgC r.2.1).length = 11 by rw [← hr]; exact eachV_len startS p)
  obtain ⟨rp, rl, re⟩ := r
  clear h hb0 hbase hr
  go_enter Try.func9, Try.ntmps9
  go_wp2_with fail
  refine HC.out.mono ?_
  rintro e w2 ⟨rfl, F2, hp2⟩
  have HP2 := hide (HP.out.trans hp2)
  have HO2 := hide (hp2.blk HO.out (HNF.out _ (by omega)))
  clear hp2 hw1 HC HP HB HO
  go_wp2_with (first
    | (refine wpList_store_at rfl 32 (.tmp 2) (.tmp 6) rfl (w.heap.size + 1) 0 32 _ (rgC rl) (.agg (rgC rl).toArray) HO2.out.1 (by rfl) (by rfl) rfl (by rw [HLR.out]; exact sizR) (by rw [HLR.out]; simp [rgC, zeroRg]) (rgC_one _) ?_
       intro wq hBq hgq hsq
       have HBQ := hide hBq
       have HPQ := hide (HP2.out.own HO2.out.2 (by omega) (Chg.of_grown hgq (fun k e => .inl (by injection e with e; exact e.symm))))
       clear hBq hgq hsq)
    | fail)
  have hov : overC (rgC zeroRg) 0 (rgC rl) = rgC rl := by
    unfold overC
    rw [List.take_zero, List.nil_append, Nat.zero_add, List.drop_of_length_le (by rw [HLR.out]; simp [rgC, zeroRg]), List.append_nil]
  have hx8 := HBQ.out
  rw [hov] at hx8
  have hrl := run_loadVar_at (P := Try.prog) wq ⟨w.heap.size + 1, 0, none⟩ 32 (rgC rl) _ (blk_list hx8) Try.underlying32 rfl (by rw [HLR.out]; exact sizR)
  refine bodyPost_ret (v := .tuple #[.agg (rgC rl).toArray, .int .i64 re]) ?_ rfl ⟨rfl, _, HPQ.out⟩
  simp [results, Try.results9, Act.put, asAddr, Result.andThen, hrl]
def firstL : List Value := [.int .u64 0, .int .u64 2097152, .int .u64 0, .int .u64 0, .int .u64 0, .int .u64 0, .int .u64 0, .int .u64 0, .int .u64 0, .int .u64 0, .int .u64 3145792]
theorem first_at {i : Nat} (hi : i < 11) : firstL[i]? = some (.int .u64 (firstV i)) := by
  have h : i = 0 ∨ i = 1 ∨ i = 2 ∨ i = 3 ∨ i = 4 ∨ i = 5 ∨ i = 6 ∨ i = 7 ∨ i = 8 ∨ i = 9 ∨ i = 10 := by omega
  rcases h with rfl | rfl | rfl | rfl | rfl | rfl | rfl | rfl | rfl | rfl | rfl <;> rfl
theorem first_u64 (i : Nat) : U64 (firstV i) := by
  unfold firstV U64
  split
  · omega
  · split <;> omega
theorem sizF : (Try.prog.info? 78).map (·.size) = some 11 := by kernel_rfl
theorem build_first (w : World) : (Instr.build 78 #[(1, .int .u64 2097152), (10, .int .u64 3145792)]).run Try.prog w = .ok (.agg firstL.toArray) w := by kernel_rfl
theorem firstL_one : ∀ u ∈ firstL, u.oneCell' = true := by
  intro u hu
  simp only [firstL, List.mem_cons, List.not_mem_nil, or_false] at hu
  rcases hu with rfl | rfl | rfl | rfl | rfl | rfl | rfl | rfl | rfl | rfl | rfl <;> rfl
set_option maxHeartbeats 1000000 in
theorem entry1_any (i : Nat) (hi : i < 11) (W : World) (F1 : Nat → Prop) (p1 : PS) (bp bf : Nat) (h : PoolAt W base F1 g p1) (hbase : base ≤ W.heap.size) (hb : Blk W bp 30 #[.pointer (some ⟨g, 0, none⟩)]) (hf : Blk W bf 78 firstL.toArray) :
    Calls Try.prog 28 #[.int .i64 (i : Int), .pointer (some ⟨bp, 0, none⟩), .pointer (some ⟨bf, 0, none⟩)] W (RetP base g F1 W (entryS p1 i)) := by
  have c0 := hb.cell 0
  simp at c0
  have cf : W.cell? ⟨bf, i, none⟩ = some (.int .u64 (firstV i)) := by rw [hf.cell i, List.getElem?_toArray]; exact first_at hi
  have HV := hide (first_u64 i)
  obtain ⟨v, hv⟩ : ∃ v, firstV i = v := ⟨_, rfl⟩
  have HE := hide (show entryS p1 i = putR p1 (constT v) by unfold entryS; rw [hv])
  rw [hv] at cf HV
  have HP := hide (show PoolAt W.drew base F1 g p1 from h.drew)
  have HH := hide h
  clear h hb hf hv
  go_enter Try.func28, Try.ntmps28
  go_upto_region 1 with fail
  go_region_with (first
    | (go_at_call 29; refine (const_any v HV.out _ HP.out hbase).mono ?_; rintro e w' ⟨rfl, hr⟩))
  all_goals
    have HR := hide hr
    clear hr
    go_wp2
    go_ret2
    rw [HE.out]
    exact RetP.from (PG.of_below HH.out ((Below.refl _ _).drew)) ⟨rfl, HR.out⟩
set_option maxHeartbeats 1000000 in
theorem entry_any (h : PoolAt w base F g p) (hbase : base ≤ w.heap.size) : Calls Try.prog 11 #[.pointer (some ⟨g, 0, none⟩)] w (EachP base g F w (eachV entryS p)) := by
  have zr := zeroR
  have qf := build_first
  obtain ⟨w1, hw1⟩ : ∃ v, (w.alloc (.cells #[.pointer (some ⟨g, 0, none⟩)] 30)).alloc (.cells (rgC zeroRg).toArray 32) = v := ⟨_, rfl⟩
  have hs1 : w1.heap.size = w.heap.size + 2 := by rw [← hw1]; simp
  have hb0 : Below w.heap.size w w1 := by rw [← hw1]; exact ((Below.refl _ w).alloc (Nat.le_refl _) _).alloc (by simp) _
  have HP0 := hide (PG.of_below h hb0)
  have HB0 := hide (show Blk w1 w.heap.size 30 #[.pointer (some ⟨g, 0, none⟩)] by rw [← hw1]; exact (Blk.new w 30 #[.pointer (some ⟨g, 0, none⟩)]).alloc _)
  have HO0 := hide (show Blk w1 (w.heap.size + 1) 32 (rgC zeroRg).toArray by rw [← hw1]; exact Blk.new (w.alloc (.cells #[.pointer (some ⟨g, 0, none⟩)] 30)) 32 (rgC zeroRg).toArray |> fun q => by simpa using q)
  have HNF := hide (fun b (hb : w.heap.size ≤ b) q => by have := (h.fb b q).2; omega : ∀ b, w.heap.size ≤ b → ¬ F b)
  have HBS := hide hbase
  have HLR := hide (show (rgC (eachV entryS p).2.1).length = 11 from eachV_len entryS p)
  obtain ⟨r, hr⟩ : ∃ r, eachV entryS p = r := ⟨_, rfl⟩
  rw [hr] at HLR ⊢
  have HR0 := hide hr
  clear h hb0 hbase hr
  go_enter Try.func11, Try.ntmps11
  go_upto_region 1 with fail
  clear hw1
  have HS1 := hide hs1
  clear hs1
  go_wp2_with (first
    | (refine wpList_store_new rfl 78 (.tmp 4) (.tmp 5) rfl _ firstL (.agg firstL.toArray) (by rfl) (by rfl) rfl sizF (by rfl) firstL_one ?_
       intro w3 X3 L3 S3
       have HP := hide (HP0.out.step L3)
       have HB := hide (HB0.out.below L3 HB0.out.lt)
       have HO := hide (HO0.out.below L3 HO0.out.lt)
       have HFB := hide X3
       clear X3 L3 S3)
    | fail)
  clear HP0 HB0 HO0
  obtain ⟨bf, hbf⟩ : ∃ k, w1.heap.size = k := ⟨_, rfl⟩
  rw [hbf] at HFB ⊢
  have HBF := hide (show bf = w.heap.size + 2 by rw [← hbf]; exact HS1.out)
  clear hbf HS1
  have HC := hide (by
    have := each_any (HP.out.pool) (Nat.le_trans HBS.out HP.out.size) 28 #[.pointer (some ⟨w.heap.size, 0, none⟩), .pointer (some ⟨bf, 0, none⟩)] enters_entry entryS (fun i hi W F1 p1 hp hb => entry1_any i hi W F1 p1 w.heap.size bf hp.pool hb (hp.blk HB.out (HNF.out _ (Nat.le_refl _))).1 (hp.blk HFB.out (HNF.out _ (by have := HBF.out; omega))).1)
    rw [HR0.out] at this
    exact this)
  obtain ⟨rp, rl, re⟩ := r
  dsimp only at HLR HC
  go_wp2_with fail
  refine HC.out.mono ?_
  rintro e w2 ⟨rfl, F2, hp2⟩
  have HP2 := hide (HP.out.trans hp2)
  have HO2 := hide (hp2.blk HO.out (HNF.out _ (by omega)))
  clear hp2 HC HP HB HO HFB
  go_wp2_with (first
    | (refine wpList_store_at rfl 32 (.tmp 2) (.tmp 8) rfl (w.heap.size + 1) 0 32 _ (rgC rl) (.agg (rgC rl).toArray) HO2.out.1 (by rfl) (by rfl) rfl (by rw [HLR.out]; exact sizR) (by rw [HLR.out]; simp [rgC, zeroRg]) (rgC_one _) ?_
       intro wq hBq hgq hsq
       have HBQ := hide hBq
       have HPQ := hide (HP2.out.own HO2.out.2 (by omega) (Chg.of_grown hgq (fun k e => .inl (by injection e with e; exact e.symm))))
       clear hBq hgq hsq)
    | fail)
  have hov : overC (rgC zeroRg) 0 (rgC rl) = rgC rl := by
    unfold overC
    rw [List.take_zero, List.nil_append, Nat.zero_add, List.drop_of_length_le (by rw [HLR.out]; simp [rgC, zeroRg]), List.append_nil]
  have hx8 := HBQ.out
  rw [hov] at hx8
  have hrl := run_loadVar_at (P := Try.prog) wq ⟨w.heap.size + 1, 0, none⟩ 32 (rgC rl) _ (blk_list hx8) Try.underlying32 rfl (by rw [HLR.out]; exact sizR)
  refine bodyPost_ret (v := .tuple #[.agg (rgC rl).toArray, .int .i64 re]) ?_ rfl ⟨rfl, _, HPQ.out⟩
  simp [results, Try.results11, Act.put, asAddr, Result.andThen, hrl]
end
end Go.Proofs.Ytepagfkkjlbipaa
