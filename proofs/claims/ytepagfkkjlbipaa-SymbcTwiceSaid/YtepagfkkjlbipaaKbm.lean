/-
  Contracts of norm.Eval and of the laws' wakes. Conditions: those written in each statement.
  lathelaw28.wakes answers true. Conditions: those written in each statement.
  Two rows of numbers, the same? Two events? Conditions: those written in each statement.
  The start made again; what lies on while a pool goes on. Conditions: those written in each statement.
-/
import Derived.Test.YtepagfkkjlbipaaUc
import Derived.Test.YtepagfkkjlbipaaKaq
import Derived.Test.YtepagfkkjlbipaaKbj
import Derived.Test.YtepagfkkjlbipaaRr
import Derived.Test.YtepagfkkjlbipaaKav
import Derived.Test.YtepagfkkjlbipaaKba
import Derived.BigQuiet
section
namespace Go.Proofs.Ytepagfkkjlbipaa
open Go.RowKit
set_option linter.unusedVariables false
set_option linter.unusedSimpArgs false
set_option maxRecDepth 100000
section
variable {base g nn c B gm : Nat} {F : Nat → Prop} {p : PS} {vs : List Int} {A : Option Addr}
theorem eval_all : ∀ (N : Nat) (n : Int), I64 n → n.toNat < N → EvC base g F p vs A nn c B gm n := by
  intro N
  induction N with
  | zero => intro n hI h; omega
  | succ N ih =>
    intro n hI h
    exact eval_step n hI fun k h0 h1 => ih k (by unfold I64 at *; omega) (by omega)
set_option maxHeartbeats 1000000 in
/-- Eval: a term's value, of the variables that came in. -/
theorem Eval_any (n : Int) (hI : I64 n) (W : World) (h : PoolAt W base F g p) (hr : Reads W W.heap.size 1 A nn (vs.map (Value.int .u64))) (hl : vs.length = nn) (hc : nn ≤ c) (hs : nn < 9223372036854775808) (hu : ∀ v ∈ vs, U64 v) :
    Calls Try.prog 13 #[.pointer (some ⟨g, 0, none⟩), .int .i64 n, .slice A nn c] W fun e w' => e = .returned (.tuple #[.int .u64 (resV (evP p.T vs n)).1, .int .i64 (resV (evP p.T vs n)).2]) ∧ Below W.heap.size W w' := by
  have HP := hide h
  have HR := hide hr
  have HX := hide (And.intro hl (And.intro hc (And.intro hs hu)))
  have HI := hide hI
  clear h hr hl hc hs hu hI
  go_enter Try.func13, Try.ntmps13
  go_wp2_with (first
    | (refine wpList_makeMap (Value.int .i64) I64 3 rfl 83 rfl ?_
       intro w1 gm hgm hm hb
       have HM := hide hm
       have HG := hide hgm
       have HB := hide hb
       clear hm hb hgm)
    | fail)
  have hF : EvF base g F p vs A nn c W.heap.size gm [] w1 :=
    ⟨HP.out.below HB.out, HR.out.below HB.out, HX.out.1, HX.out.2.1, HX.out.2.2.1, HX.out.2.2.2, HM.out.congr fun x => rfl, ⟨fun q => by have := (HP.out.fb _ q).2; have := HG.out; omega, HG.out⟩, List.nodup_nil, fun i hi => absurd hi (by simp), fun i hi => absurd hi (by simp)⟩
  have hall := eval_all (base := base) (g := g) (F := F) (p := p) (vs := vs) (A := A) (nn := nn) (c := c) (B := W.heap.size) (gm := gm) (n.toNat + 1) n HI.out (by omega) [] w1 hF
  refine hall.mono ?_
  rintro e w2 ⟨L, rfl, _, hc, _⟩
  have HC := hide (HB.out.trans (hc.below (B := W.heap.size) (fun b q => q ▸ HG.out) HB.out.size))
  clear hF hall hc
  go_wp2
  go_ret2
  exact ⟨rfl, HC.out⟩
end
/-- What the document says of x + 3 + 4, and of x Xor x. -/
def wT1 : List TD := [varT 0 64]
def wT4 : List TD := [varT 0 64, constT 3, constT 4, constT 7]
def wT5 : List TD := [varT 0 64, constT 3, constT 4, constT 7, opT 0 64 0 1]
def wT6 : List TD := [varT 0 64, constT 3, constT 4, constT 7, opT 0 64 0 1, opT 0 64 0 3]
def wT7 : List TD := [varT 0 64, constT 3, constT 4, constT 7, opT 0 64 0 1, opT 0 64 0 3, constT 0]
end Go.Proofs.Ytepagfkkjlbipaa
end
section
namespace Go.Proofs.Ytepagfkkjlbipaa
open Go.RowKit
set_option linter.unusedVariables false
set_option linter.unusedSimpArgs false
set_option maxRecDepth 100000
def wkL : List ID := [⟨0, 11, 64, 0, true, 0, 1, 0, 0⟩, ⟨0, 0, 64, 0, false, 0, 0, 0, 2⟩, ⟨6, 0, 0, 0, false, 0, 0, 0, 0⟩]
def wkP1 : PS := ⟨P0.T ++ [constT 2], P0.D ++ [1]⟩
def wkP : PS := ⟨wkP1.T ++ [opT 0 64 1 11], wkP1.D ++ [2]⟩
def wkR : List Int := [12, 1, 2, 3, 4, 5, 6, 7, 8, 9, 10]
theorem wk_o1 : opV P0 11 64 0 1 = (P0, 1, 0) := opV_of (f := 3) (by kernel_rfl)
theorem wk_o2 : opV wkP1 0 64 1 11 = (wkP, 12, 0) := opV_of (f := 3) (by kernel_rfl)
theorem wk_n : putR P0 (constT (IntKind.u64.wrap 2)) = (wkP1, 11, 0) := by kernel_rfl
theorem wk_s1 : (SM.mk P0 R0 [] 0).step ⟨0, 11, 64, 0, true, 0, 1, 0, 0⟩ = ⟨P0, [1, 1, 2, 3, 4, 5, 6, 7, 8, 9, 10], [], 0⟩ := by
  show (let s := (SM.mk P0 R0 [] 0).keep (opV P0 11 64 0 1); s.1.set 0 s.2) = _
  rw [wk_o1]
  rfl
theorem wk_s2 : (SM.mk P0 [1, 1, 2, 3, 4, 5, 6, 7, 8, 9, 10] [] 0).step ⟨0, 0, 64, 0, false, 0, 0, 0, 2⟩ = ⟨wkP, wkR, [], 0⟩ := by
  show (let q := (SM.mk P0 [1, 1, 2, 3, 4, 5, 6, 7, 8, 9, 10] [] 0).keep (putR P0 (constT (IntKind.u64.wrap 2))); let s := q.1.keep (opV q.1.p 0 64 1 q.2); s.1.set 0 s.2) = _
  rw [wk_n]
  show (let s := (SM.mk wkP1 [1, 1, 2, 3, 4, 5, 6, 7, 8, 9, 10] [] 0).keep (opV wkP1 0 64 1 11); s.1.set 0 s.2) = _
  rw [wk_o2]
  rfl
theorem wk_go : goV P0 wkL 0 R0 = ⟨wkP, wkR, [], 0⟩ := by
  have e : insOf wkL (blkAt wkL 0) = wkL := by kernel_rfl
  unfold goV
  rw [e]
  show (((SM.mk P0 R0 [] 0).step ⟨0, 11, 64, 0, true, 0, 1, 0, 0⟩).step ⟨0, 0, 64, 0, false, 0, 0, 0, 2⟩).step ⟨6, 0, 0, 0, false, 0, 0, 0, 0⟩ = _
  rw [wk_s1, wk_s2]
  rfl
theorem wk_run : runV P0 0 wkL 0 R0 = ⟨wkP, wkR, [], ⟨0, 12, 0, 0⟩, 0⟩ := by
  have h1 : (chkP 0 wkL).2 = 0 := by kernel_rfl
  have h2 : askB P0 wkL 0 R0 = true := by kernel_rfl
  rw [run_go h1 h2, wk_go]
  have e : wkL.getD ((blkAt wkL 0).upto - 1).toNat noIns = ⟨6, 0, 0, 0, false, 0, 0, 0, 0⟩ := by kernel_rfl
  rw [e]
  rfl
def wkV : List Int := [0, 40, 0, 0, 0, 0, 0, 0, 0, 0, 0]
theorem wk_val : resV (evP wkP.T wkV 12) = (42, 0) := by kernel_rfl
set_option maxHeartbeats 1000000 in
theorem wakes_any (w : World) : Calls Try.prog 6 #[] w fun e w' => e = .returned (.bool true) ∧ Below w.heap.size w w' := by
  go_enter Try.func6, Try.ntmps6
  go_wp2_with fail
  refine (new_any _).mono ?_
  rintro e w0 ⟨g, F0, rfl, hp, hb⟩
  have HF := hide (fun b q => (hp.fb b q).1 : ∀ b, F0 b → w.heap.size ≤ b)
  have HB := hide hb
  have HW := hide hb
  have HQ := hide (PG.refl hp)
  clear hp hb
  go_upto_region 3 with fail
  have hs0 : w0.heap.size = w0.heap.size := rfl
  obtain ⟨b0, hb0⟩ : ∃ k, w0.heap.size = k := ⟨_, rfl⟩
  rw [hb0]
  obtain ⟨w1, hw1⟩ : ∃ v, (w0.alloc (.cells (wkL.flatMap ID.cells).toArray 26)).alloc (.cells #[.int .i64 0, .slice (some ⟨b0, 0, none⟩) 3 3] 29) = v := ⟨_, rfl⟩
  show Code.wp Try.prog _ _ _ ((w0.alloc (.cells (wkL.flatMap ID.cells).toArray 26)).alloc (.cells #[.int .i64 0, .slice (some ⟨b0, 0, none⟩) 3 3] 29))
  rw [hw1]
  have hb1 : Below w0.heap.size w0 w1 := by rw [← hw1]; exact ((Below.refl _ w0).alloc (Nat.le_refl _) _).alloc (by simp) _
  have HBL := hide (show Blk w1 b0 26 (wkL.flatMap ID.cells).toArray by rw [← hw1, ← hb0]; exact (Blk.new w0 26 (wkL.flatMap ID.cells).toArray).alloc _)
  have HBP := hide (show Blk w1 (b0 + 1) 29 #[.int .i64 0, .slice (some ⟨b0, 0, none⟩) 3 3] by
    rw [← hw1, ← hb0]
    have := Blk.new (w0.alloc (.cells (wkL.flatMap ID.cells).toArray 26)) 29 #[.int .i64 0, .slice (some ⟨w0.heap.size, 0, none⟩) 3 3]
    simpa using this)
  have HNF := hide (fun q => by have := (HQ.out.pool.fb b0 q).2; omega : ¬ F0 b0)
  have HNP := hide (fun q => by have := (HQ.out.pool.fb (b0 + 1) q).2; omega : ¬ F0 (b0 + 1))
  replace HQ := hide (HQ.out.step hb1)
  replace HB := hide (Nat.le_trans HB.out.size hb1.size)
  have HB0 := hide hb0
  clear hw1 hb1 hs0 hb0
  go_wp2_with fail
  refine (start_any HQ.out.pool HB.out).mono ?_
  rintro e w2 ⟨rfl, F1, hp1⟩
  rw [start_empty] at hp1 ⊢
  have HBL1 := hide (hp1.blk HBL.out HNF.out)
  have HBP1 := hide (hp1.blk HBP.out HNP.out)
  replace HQ := hide (HQ.out.trans hp1)
  replace HB := hide (Nat.le_trans HB.out hp1.chg.size)
  clear hp1 HBL HBP HNF HNP
  go_upto_region 4 with (first
    | (refine wpList_store_new rfl 32 (.tmp 3) (.tmp 18) rfl _ (rgC R0) (.agg (rgC R0).toArray) (by rfl) (by rfl) rfl sizR (by rfl) (rgC_one _) ?_
       intro w3 G3 L3 Z3
       have HB3 := hide G3
       have HL3 := hide L3
       clear G3 L3 Z3)
    | fail)
  have hn3 : ¬ F1 w2.heap.size := fun q => by have := (HQ.out.pool.fb _ q).2; omega
  obtain ⟨b3, hb3⟩ : ∃ k, w2.heap.size = k := ⟨_, rfl⟩
  rw [hb3] at HB3 hn3 ⊢
  have HBL2 := hide (And.intro (HBL1.out.1.below HL3.out HBL1.out.1.lt) HBL1.out.2)
  have HBP2 := hide (And.intro (HBP1.out.1.below HL3.out HBP1.out.1.lt) HBP1.out.2)
  replace HQ := hide (HQ.out.step HL3.out)
  replace HB := hide (Nat.le_trans HB.out HL3.out.size)
  have HIN := hide (show InsF w3 F1 (some ⟨b0, 0, none⟩) 3 wkL from ⟨rfl, by
    intro x hx
    simp only [wkL, List.mem_cons, List.not_mem_nil, or_false] at hx
    rcases hx with rfl | rfl | rfl <;> (unfold ID.wf I8 I64; dsimp only; omega), rfl, fun _ => ⟨_, rfl, HBL2.out.1.lt, HBL2.out.2, blk_list HBL2.out.1⟩⟩)
  have c20 : w3.cell? ⟨b0 + 1, 0, none⟩ = some (.int .i64 0) := HBP2.out.1.cell 0
  have c21 : w3.cell? ⟨b0 + 1, 1, none⟩ = some (.slice (some ⟨b0, 0, none⟩) 3 3) := HBP2.out.1.cell 1
  clear hb3 HL3 HBL1 HBP1 HBL2 HBP2
  go_wp2_with (first
    | (refine wpList_load_at rfl 32 (.tmp 3) rfl ⟨b3, 0, none⟩ (by rfl) (rgC R0) _ (blk_list HB3.out) Try.underlying32 rfl sizR ?_)
    | fail)
  refine (srun_any HQ.out.pool HB.out 0 (some ⟨b0, 0, none⟩) 3 3 wkL HIN.out (Nat.le_refl _) (by omega) 0 (by unfold I64; omega) R0 rfl (fun r hr => has_i64 P0_good.1 (P0_good.2.2 r hr))).mono ?_
  rintro e w4 ⟨es, F2, rfl, hp2, hev, ho⟩
  rw [wk_run] at hp2 ⊢
  replace HQ := hide (HQ.out.trans hp2)
  replace HB := hide (Nat.le_trans HB.out hp2.chg.size)
  have HO := hide ho
  clear hp2 hev ho c20 c21 HIN HB3 hn3
  go_upto_region 5 with (first
    | (refine wpList_store_new rfl 40 (.tmp 5) (.tmp 25) rfl _ (srcC wkR es ⟨0, 12, 0, 0⟩) (.agg (srcC wkR es ⟨0, 12, 0, 0⟩).toArray) (by rfl) (by rfl) rfl sizS (by rfl) (srcC_one HO.out _) ?_
       intro w5 G5 L5 Z5
       have HB5 := hide G5
       have HL5 := hide L5
       clear G5 L5 Z5)
    | fail)
  replace HQ := hide (HQ.out.step HL5.out)
  replace HB := hide (Nat.le_trans HB.out HL5.out.size)
  obtain ⟨b5, hb5⟩ : ∃ k, w4.heap.size = k := ⟨_, rfl⟩
  rw [hb5] at HB5 ⊢
  have c513 : w5.cell? ⟨b5, 13, none⟩ = some (.int .i64 12) := HB5.out.cell 13
  have HK5 := hide (show w5.cell? ⟨b5, 12, none⟩ = some (.int .i8 0) from HB5.out.cell 12)
  have HL55 := HB5.out.lt
  clear hb5 HL5 HB5
  go_wp2_with fail
  have hbA := bl_alloc w5 (.cells (wkV.map (Value.int .u64)).toArray 46)
  replace HQ := hide (HQ.out.step hbA)
  replace HB := hide (Nat.le_trans HB.out hbA.size)
  refine (Eval_any (vs := wkV) (nn := 11) (c := 11) 12 (by unfold I64; omega) _ HQ.out.pool (reads_list w5 46 (wkV.map (Value.int .u64)) 11 rfl) rfl (Nat.le_refl _) (by omega) (fun v hv => by simp only [wkV, List.mem_cons, List.not_mem_nil, or_false] at hv; unfold U64; omega)).mono ?_
  rintro e w6 ⟨rfl, hb⟩
  rw [wk_val]
  have c512 : w6.cell? ⟨b5, 12, none⟩ = some (.int .i8 0) := (hb.cell (by simp; omega)).trans ((hbA.cell (by exact HL55)).trans HK5.out)
  replace HQ := hide (HQ.out.step hb)
  clear hb hbA HK5 c513
  go_wp2
  go_ret
  exact ⟨rfl, HW.out.trans (HQ.out.chg.below (B := w.heap.size) (fun b q => HF.out b q) HW.out.size)⟩
end Go.Proofs.Ytepagfkkjlbipaa
end
section
namespace Go.Proofs.Ytepagfkkjlbipaa
open Go.RowKit
set_option linter.unusedVariables false
set_option linter.unusedSimpArgs false
def sameI (a b : List Int) : Bool := decide (a = b)
theorem sameI_no {a b : List Int} (h : a ≠ b) : sameI a b = false := by unfold sameI; simpa using h
theorem sameI_len {a b : List Int} (h : a.length ≠ b.length) : sameI a b = false := sameI_no fun e => h (by rw [e])
theorem sameI_at {a b : List Int} {k : Nat} {x y : Int} (hx : a[k]? = some x) (hy : b[k]? = some y) (h : x ≠ y) : sameI a b = false := sameI_no fun e => by
  subst e
  rw [hx] at hy
  exact h (Option.some.inj hy)
theorem sameI_all {a b : List Int} (hl : a.length = b.length) (h : ∀ j, j < a.length → a[j]? = b[j]?) : sameI a b = true := by
  unfold sameI
  rw [decide_eq_true_iff]
  refine List.ext_getElem hl fun i h1 h2 => ?_
  have := h i h1
  rw [List.getElem?_eq_getElem h1, List.getElem?_eq_getElem h2] at this
  exact Option.some.inj this
/-- A bool comes back; the world drew. -/
def DrP (b : Bool) (w : World) (e : Ending) (w' : World) : Prop := e = .returned (.bool b) ∧ ∃ d, w' = w.drewN d
theorem dr_more {w wr : World} (h : ∃ d, wr = w.drewN d) (k : Nat) : ∃ d, wr.drewN k = w.drewN d := by
  obtain ⟨d, rfl⟩ := h
  exact ⟨d + k, by rw [World.drewN_drewN]⟩
theorem dr_cell {w wr : World} (h : ∃ d, wr = w.drewN d) (p : Addr) : wr.cell? p = w.cell? p := by
  obtain ⟨d, rfl⟩ := h
  rfl
theorem dr_below {w wr : World} (h : ∃ d, wr = w.drewN d) (B : Nat) : Below B w wr := by
  obtain ⟨d, rfl⟩ := h
  exact below_drewN (Below.refl _ _) d
theorem ret_bb {a b : Bool} (h : a = b) : Ending.returned (.bool a) = .returned (.bool b) := by rw [h]
set_option maxRecDepth 100000 in
set_option maxHeartbeats 2000000 in
theorem equal_any (A A2 : Option Addr) (n c n2 c2 B : Nat) (a b : List Int) (w : World) (hh : NxAt w B (.slice A n c) a) (hh2 : NxAt w B (.slice A2 n2 c2) b) :
    Calls Try.prog 31 #[.slice A n c, .slice A2 n2 c2] w (DrP (sameI a b) w) := by
  have HA := hide hh
  have HB := hide hh2
  obtain ⟨ha, _, hm⟩ := hh.len
  obtain ⟨hb, _, hm2⟩ := hh2.len
  have HLA := hide ha
  have HLB := hide hb
  clear hh hh2 ha hb
  cases hne : ((n : Int) != (n2 : Int))
  · obtain rfl : n = n2 := by simp at hne; omega
    clear hne
    go_enter Try.func31, Try.ntmps31
    go_wp2
    go_loopw [13] (fun i wr => ∃ k : Nat, k ≤ n ∧ i = .int .i64 k ∧ Hid (∀ j, j < k → a[j]? = b[j]?) ∧ Hid (∃ d, wr = w.drewN d)) (fun i _ => n - (intOf i).toNat)
    case atStart => exact ⟨0, by omega, rfl, fun j h => by omega, ⟨0, rfl⟩⟩
    case round =>
      obtain ⟨k, hk, rfl, HT, HD⟩ := hrel
      by_cases hlt : k < n
      · obtain ⟨ad, x, rfl, _, hx, hxi, hcx⟩ := HA.out.at_ hlt
        obtain ⟨ad2, y, rfl, _, hy, hyi, hcy⟩ := HB.out.at_ hlt
        have HX := hide hx
        have HY := hide hy
        have e0 := (dr_cell HD.out (ad.add k)).trans hcx
        have e1 := (dr_cell HD.out (ad2.add k)).trans hcy
        have HDm := fun m => hide (dr_more HD.out m)
        clear hx hy hxi hyi hcx hcy
        cases hq : (x != y)
        · have HQ := hide (show x = y by simpa using hq)
          go_wp2_with fail
          go_quiet (fail)
          go_wp2
          go_roundw
          case measure => simp [intOf]; omega
          case rel =>
            refine ⟨k + 1, by omega, by go_num, fun j hj => ?_, (HDm _).out⟩
            rcases Nat.lt_or_ge j k with h | h
            · exact HT.out j h
            · obtain rfl : j = k := by omega
              rw [HX.out, HY.out, HQ.out]
        · have HQ := hide (sameI_at HX.out HY.out (show x ≠ y by simpa using hq))
          go_wp2_with fail
          go_quiet (fail)
          go_wp2
          go_ret
          exact ⟨ret_bb HQ.out.symm, (HDm _).out⟩
      · obtain rfl : k = n := by omega
        have HQ := hide (sameI_all (a := a) (b := b) (by rw [HLA.out, HLB.out]) (by rw [HLA.out]; exact HT.out))
        go_wp2
        go_ret
        exact ⟨ret_bb HQ.out.symm, HD.out⟩
  · have HQ := hide (sameI_len (a := a) (b := b) (by rw [HLA.out, HLB.out]; simp at hne; omega))
    go_enter Try.func31, Try.ntmps31
    go_wp2
    go_ret
    exact ⟨ret_bb HQ.out.symm, 0, rfl⟩
/-- Two events, the same? -/
def sameE (x y : EvD) : Bool := x.kind == y.kind && (x.size == y.size && (x.a == y.a && (x.v == y.v && (x.num == y.num && sameI x.args y.args))))
theorem sameE_self (x : EvD) : sameE x x = true := by unfold sameE sameI; simp
theorem NumsF.nx {w : World} {F : Nat → Prop} {s : Value} {l : List Int} (h : NumsF w F s l) : NxAt w w.heap.size s l := by
  obtain ⟨A, c, h1, h2, h3, h4, h5⟩ := h
  exact ⟨A, c, h1, h2, h3.reads, h4, by omega⟩
set_option maxRecDepth 100000 in
set_option maxHeartbeats 2000000 in
theorem same_any (x y : EvD) (v u : Value) (w : World) (hv : NxAt w w.heap.size v x.args) (hu : NxAt w w.heap.size u y.args) : Calls Try.prog 15 #[.agg (evC (x, v)).toArray, .agg (evC (y, u)).toArray] w fun e w' => e = .returned (.bool (sameE x y)) ∧ Below w.heap.size w w' := by
  obtain ⟨A, c, hv1⟩ := hv.form
  obtain ⟨A2, c2, hu1⟩ := hu.form
  subst hv1 hu1
  obtain ⟨k1, s1, a1, v1, n1, l1⟩ := x
  obtain ⟨k2, s2, a2, v2, n2, l2⟩ := y
  dsimp only at hv hu
  show Calls Try.prog 15 #[.agg #[.int .i8 k1, .int .i8 s1, .int .i64 a1, .int .i64 v1, .int .i64 n1, .slice A l1.length c], .agg #[.int .i8 k2, .int .i8 s2, .int .i64 a2, .int .i64 v2, .int .i64 n2, .slice A2 l2.length c2]] w _
  obtain ⟨w1, hw1⟩ : ∃ z, (w.alloc (.cells #[.int .i8 k1, .int .i8 s1, .int .i64 a1, .int .i64 v1, .int .i64 n1, .slice A l1.length c] 51)).alloc (.cells #[.int .i8 k2, .int .i8 s2, .int .i64 a2, .int .i64 v2, .int .i64 n2, .slice A2 l2.length c2] 51) = z := ⟨_, rfl⟩
  have hb : Below w.heap.size w w1 := by rw [← hw1]; exact ((Below.refl _ w).alloc (Nat.le_refl _) _).alloc (by simp) _
  have HV := hide (hv.below hb)
  have HU := hide (hu.below hb)
  have HB := hide hb
  obtain ⟨m1, hm1⟩ : ∃ k, l1.length = k := ⟨_, rfl⟩
  obtain ⟨m2, hm2⟩ : ∃ k, l2.length = k := ⟨_, rfl⟩
  obtain ⟨r, hr⟩ : ∃ b, sameE ⟨k1, s1, a1, v1, n1, l1⟩ ⟨k2, s2, a2, v2, n2, l2⟩ = b := ⟨_, rfl⟩
  have HR := hide (show r = (k1 == k2 && (s1 == s2 && (a1 == a2 && (v1 == v2 && (n1 == n2 && sameI l1 l2))))) by rw [← hr]; rfl)
  have HQ : Hid (Calls Try.prog 31 #[.slice A l1.length c, .slice A2 l2.length c2] w1 (DrP (sameI l1 l2) w1)) := hide (equal_any A A2 l1.length c l2.length c2 w.heap.size l1 l2 w1 HV.out HU.out)
  rw [hr]
  rw [hm1, hm2] at HQ hw1 ⊢
  have HX : Blk w1 w.heap.size 51 #[.int .i8 k1, .int .i8 s1, .int .i64 a1, .int .i64 v1, .int .i64 n1, .slice A m1 c] := by rw [← hw1]; exact (Blk.new w 51 #[.int .i8 k1, .int .i8 s1, .int .i64 a1, .int .i64 v1, .int .i64 n1, .slice A m1 c]).alloc _
  have HY : Blk w1 (w.heap.size + 1) 51 #[.int .i8 k2, .int .i8 s2, .int .i64 a2, .int .i64 v2, .int .i64 n2, .slice A2 m2 c2] := by
    rw [← hw1]
    have := Blk.new (w.alloc (.cells #[.int .i8 k1, .int .i8 s1, .int .i64 a1, .int .i64 v1, .int .i64 n1, .slice A m1 c] 51)) 51 #[.int .i8 k2, .int .i8 s2, .int .i64 a2, .int .i64 v2, .int .i64 n2, .slice A2 m2 c2]
    simpa using this
  have x0 : w1.cell? ⟨w.heap.size, 0, none⟩ = some (.int .i8 k1) := HX.cell 0
  have x1 : w1.cell? ⟨w.heap.size, 1, none⟩ = some (.int .i8 s1) := HX.cell 1
  have x2 : w1.cell? ⟨w.heap.size, 2, none⟩ = some (.int .i64 a1) := HX.cell 2
  have x3 : w1.cell? ⟨w.heap.size, 3, none⟩ = some (.int .i64 v1) := HX.cell 3
  have x4 : w1.cell? ⟨w.heap.size, 4, none⟩ = some (.int .i64 n1) := HX.cell 4
  have x5 : w1.cell? ⟨w.heap.size, 5, none⟩ = some (.slice A m1 c) := HX.cell 5
  have y0 : w1.cell? ⟨w.heap.size + 1, 0, none⟩ = some (.int .i8 k2) := HY.cell 0
  have y1 : w1.cell? ⟨w.heap.size + 1, 1, none⟩ = some (.int .i8 s2) := HY.cell 1
  have y2 : w1.cell? ⟨w.heap.size + 1, 2, none⟩ = some (.int .i64 a2) := HY.cell 2
  have y3 : w1.cell? ⟨w.heap.size + 1, 3, none⟩ = some (.int .i64 v2) := HY.cell 3
  have y4 : w1.cell? ⟨w.heap.size + 1, 4, none⟩ = some (.int .i64 n2) := HY.cell 4
  have y5 : w1.cell? ⟨w.heap.size + 1, 5, none⟩ = some (.slice A2 m2 c2) := HY.cell 5
  clear hv hu hb hm1 hm2 hr HV HU HX HY
  cases ek : (k1 == k2)
  · go_enter Try.func15, Try.ntmps15
    go_wp2
    go_ret
    exact ⟨by rw [HR.out, ek]; simp, HB.out⟩
  · skip
    cases es : (s1 == s2)
    · go_enter Try.func15, Try.ntmps15
      go_wp2
      go_ret
      exact ⟨by rw [HR.out, ek, es]; simp, HB.out⟩
    · skip
      cases ea : (a1 == a2)
      · go_enter Try.func15, Try.ntmps15
        go_wp2
        go_ret
        exact ⟨by rw [HR.out, ek, es, ea]; simp, HB.out⟩
      · skip
        cases ev : (v1 == v2)
        · go_enter Try.func15, Try.ntmps15
          go_wp2
          go_ret
          exact ⟨by rw [HR.out, ek, es, ea, ev]; simp, HB.out⟩
        · skip
          cases en : (n1 == n2)
          · go_enter Try.func15, Try.ntmps15
            go_wp2
            go_ret
            exact ⟨by rw [HR.out, ek, es, ea, ev, en]; simp, HB.out⟩
          · skip
            go_enter Try.func15, Try.ntmps15
            go_wp2_with fail
            refine HQ.out.mono ?_
            rintro e w2 ⟨rfl, hd⟩
            have HD := hide hd
            clear hd
            go_wp2
            go_ret
            exact ⟨by rw [HR.out, ek, es, ea, ev, en]; simp, HB.out.trans ((dr_below HD.out _).mono HB.out.size)⟩
end Go.Proofs.Ytepagfkkjlbipaa
end
section
namespace Go.Proofs.Ytepagfkkjlbipaa
open Go.RowKit
set_option linter.unusedVariables false
set_option linter.unusedSimpArgs false
set_option maxRecDepth 100000
theorem eachK_up {st : PS → Nat → RS} (hst : ∀ p i, i < 11 → WfP p → (∀ t ∈ p.T, t.wf) → Good p (st p i)) {p : PS} (hw : WfP p) (hr : ∀ t ∈ p.T, t.wf) {k j : Nat} (hkj : k ≤ j) (hj : j ≤ 11) : Ext (eachK st p k).1 (eachK st p j).1 := by
  obtain ⟨d, rfl⟩ : ∃ d, j = k + d := ⟨j - k, by omega⟩
  induction d with
  | zero => exact Ext.refl _
  | succ d ih =>
    refine (ih (by omega) (by omega)).trans ?_
    obtain ⟨_, h2, h3, _⟩ := eachK_good hst hw hr (k + d) (by omega)
    by_cases h0 : (eachK st p (k + d)).2.2 = 0
    · rw [← Nat.add_assoc, eachK_succ h0]
      exact (hst _ (k + d) (by omega) h2 h3).ext
    · rw [← Nat.add_assoc, eachK]
      dsimp only
      rw [if_neg h0]
      exact Ext.refl _
theorem eachK_ok {st : PS → Nat → RS} {p : PS} {k j : Nat} (hkj : k ≤ j) (h : (eachK st p j).2.2 = 0) : (eachK st p k).2.2 = 0 := by
  by_cases h0 : (eachK st p k).2.2 = 0
  · exact h0
  · rw [eachK_bad h0 hkj] at h
    exact absurd h h0
theorem eachV_ag {st : PS → Nat → RS} (hst : ∀ p i, i < 11 → WfP p → (∀ t ∈ p.T, t.wf) → Good p (st p i)) {p q : PS} (hw : WfP p) (hr : ∀ t ∈ p.T, t.wf) (hag : ∀ p i, (st p i).2.2 = 0 → Ext (st p i).1 q → st q i = (q, (st p i).2.1, 0)) {r : PS × List Int × Int} (h : eachV st p = r) (h0 : r.2.2 = 0) (he : Ext r.1 q) : eachV st q = (q, r.2.1, 0) := by
  have h11 : (eachK st p 11).2.2 = 0 := by
    unfold eachV at h
    dsimp only at h
    by_cases h1 : (eachK st p 11).2.2 = 0
    · exact h1
    · rw [if_neg h1] at h
      subst h
      exact absurd h0 h1
  have hv : eachV st p = eachK st p 11 := by unfold eachV; dsimp only; rw [if_pos h11]
  rw [hv] at h
  subst h
  have key : ∀ k, k ≤ 11 → eachK st q k = (q, (eachK st p k).2.1, 0) := by
    intro k hk
    induction k with
    | zero => rfl
    | succ k ih =>
      have hk0 := eachK_ok (st := st) (p := p) (show k ≤ 11 by omega) h11
      have hk1 := eachK_ok (st := st) (p := p) hk h11
      have e1 := eachK_succ (st := st) (p := p) hk0
      have ihk := ih (by omega)
      rw [e1] at hk1
      have hx := eachK_up hst hw hr hk (Nat.le_refl 11)
      rw [e1] at hx
      have hs := hag (eachK st p k).1 k hk1 (hx.trans he)
      rw [e1, eachK_succ (by rw [ihk]), ihk]
      dsimp only
      rw [hs]
  unfold eachV
  dsimp only
  rw [key 11 (Nat.le_refl _), if_pos rfl]
theorem start_ag {q : PS} (hq : WfP q) (he : Ext P0 q) : eachV startS q = (q, R0, 0) :=
  eachV_ag start_good wf_nil.1 wf_nil.2 (fun p i h0 hx => putR_again hq h0 hx) start_empty rfl he
section
variable {w w' : World} {base g : Nat} {F F' G : Nat → Prop} {p : PS} {s : Value} {l : List EvD}
theorem EvsAt.pg (h : EvsAt w F s l) (k : PG base g F w F' p w') : EvsAt w' F' s l := h.chg k.chg (fun b q => .inl q) (fun b q => k.new b q)
theorem EvsAt.step (h : EvsAt w F s l) (hb : Below w.heap.size w w') : EvsAt w' F s l := h.chg (Chg.of_below hb) (fun k q => .inr q) (fun k q => .inl q)
theorem EvsAt.less (h : EvsAt w G s l) (hG : ∀ b, F b → G b) : EvsAt w F s l := h.chg (H := fun _ => False) (Chg.refl _ w) (fun _ q => q.elim) (fun b q => .inl (hG b q))
end
end Go.Proofs.Ytepagfkkjlbipaa
end
