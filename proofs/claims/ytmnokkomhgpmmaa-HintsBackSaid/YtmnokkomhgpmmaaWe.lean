/-
  hints.Bytes: hints as bytes. Conditions: those written in each statement.
-/
import Derived.Test.YtmnokkomhgpmmaaWd
import Derived.Deep.RegionLaw
import Derived.Deep.RegionWith
import Derived.Deep.DeepCutAuto
namespace Go.Proofs.Ytmnokkomhgpmmaa
open Go.RowKit
set_option linter.unusedVariables false
set_option linter.unusedSimpArgs false
def plB (l : List (Int × Int)) : List Int := l.flatMap fun p => [p.1 % 256, p.2 % 256]
def hdB (h : HD) : List Int := putB h.at_ 3 ++ plB h.pl
def hsB (s : Int) (hs : List HD) : List Int := putB s 2 ++ [(hs.length : Int) % 256] ++ hs.flatMap hdB
theorem own_slice {w : World} {base e size n : Nat} {v : Value} {xs : List Value} (h : w.ownsRow base e size v n xs) (h0 : 0 < size) : ∃ A c, v = .slice A n c ∧ n ≤ c ∧ Reads w w.heap.size size A n xs := by
  rcases h.2 with ⟨hv, hx⟩ | ⟨g, cap, cur, hv, hb, hg, hnc, _⟩
  · subst hx
    have hxs : xs = [] := List.eq_nil_of_length_eq_zero (by have := h.1; omega)
    rw [hxs]
    exact ⟨none, 0, hv, by omega, Reads.none_⟩
  · subst hv
    exact ⟨_, _, rfl, hnc, Reads.of_own h⟩
theorem own_base {w : World} {base b e size n : Nat} {v : Value} {xs : List Value} (h : w.ownsRow base e size v n xs) (hb : b ≤ base) : w.ownsRow b e size v n xs :=
  ⟨h.1, h.2.imp id fun ⟨g, cap, cur, h1, h2, h3⟩ => ⟨g, cap, cur, h1, Nat.le_trans hb h2, h3⟩⟩
theorem own_ge {w : World} {base e size n : Nat} {v : Value} {xs : List Value} (h : w.ownsRow base e size v n xs) : ∀ g, v.ownBlock = some g → base ≤ g := by
  intro g hg
  rcases h.2 with ⟨rfl, _⟩ | ⟨g', cap, cur, rfl, hb, _⟩
  · simp [Value.ownBlock] at hg
  · simp [Value.ownBlock] at hg; omega
theorem own_below {w w' : World} {base e size n : Nat} {v : Value} {xs : List Value} (h : w.ownsRow base e size v n xs) (hb : Below w.heap.size w w') : w'.ownsRow base e size v n xs :=
  ⟨h.1, h.2.imp id fun ⟨g, cap, cur, h1, h2, h3, h4⟩ => ⟨g, cap, cur, h1, h2, (hb.block g (Blk.lt (t := e) (cs := cur) h3)).trans h3, h4⟩⟩
theorem reads_one {w : World} {g : Nat} {u : Value} (h : w.cell? ⟨g, 0, none⟩ = some u) : Reads w w.heap.size 1 (some ⟨g, 0, none⟩) 1 [u] :=
  ⟨rfl, fun _ => ⟨_, rfl, World.block_lt_of_cell? w ⟨g, 0, none⟩ h, fun j v hj => by
    cases j with
    | zero => simp at hj; subst hj; exact h
    | succ j => simp at hj⟩⟩
theorem hd_at {s : Int} {hs : List HD} {k : Nat} {x : HD} (h : chkB s hs = true) (hx : hs[k]? = some x) : 0 ≤ x.at_ ∧ x.at_ < 16384 := by
  unfold chkB at h
  simp only [Bool.and_eq_true] at h
  have := List.all_eq_true.1 h.2 x (List.mem_of_getElem? hx)
  unfold hOk at this
  simp only [Bool.and_eq_true, decide_eq_true_eq] at this
  exact this.1
theorem chk_len {s : Int} {hs : List HD} (h : chkB s hs = true) : 0 < hs.length ∧ hs.length ≤ 65 := by
  unfold chkB at h
  simp only [Bool.and_eq_true, decide_eq_true_eq] at h
  omega
theorem plB_len (l : List (Int × Int)) : (plB l).length = 2 * l.length := by
  induction l with
  | nil => rfl
  | cons p r ih => simp only [plB, List.flatMap_cons, List.length_append, List.length_cons, List.length_nil] at ih ⊢; omega
theorem plB_take {l : List (Int × Int)} {j : Nat} {p : Int × Int} (h : l[j]? = some p) : plB (l.take (j + 1)) = plB (l.take j) ++ [p.1 % 256, p.2 % 256] := by
  rw [List.take_add_one, h]
  simp [plB]
theorem flat_take {α β : Type} (f : α → List β) {l : List α} {k : Nat} {x : α} (h : l[k]? = some x) : (l.take (k + 1)).flatMap f = (l.take k).flatMap f ++ f x := by
  rw [List.take_add_one, h]
  simp
def ByRel (s : Int) (hs : List HD) (W : World) (A : Option Addr) (n : Nat) (sv i : Value) (wr : World) : Prop :=
  ∃ k : Nat, k ≤ n ∧ i = .int .i64 k ∧ wr.ownsRow W.heap.size 5 1 sv (3 + 25 * k) ((putB s 2 ++ [(n : Int) % 256] ++ (hs.take k).flatMap hdB).map (Value.int .u8)) ∧ HintsAt wr W.heap.size A n hs ∧ Below W.heap.size W wr
def BiRel (pre : List Int) (l : List (Int × Int)) (hs : List HD) (W : World) (A : Option Addr) (n m : Nat) (sv i : Value) (wr : World) : Prop :=
  ∃ j : Nat, j ≤ 11 ∧ i = .int .i64 j ∧ wr.ownsRow W.heap.size 5 1 sv (m + 2 * j) ((pre ++ plB (l.take j)).map (Value.int .u8)) ∧ HintsAt wr W.heap.size A n hs ∧ Below W.heap.size W wr
set_option maxRecDepth 100000 in
set_option maxHeartbeats 2000000 in
theorem bytes_yes (s : Int) (A : Option Addr) (n c : Nat) (hs : List HD) (w : World) (hh : HintsAt w w.heap.size A n hs) (hc : n ≤ c) (hm : n < 9223372036854775808) (hck : chkB s hs = true) :
    Calls Try.prog 11 #[.agg #[.int .i64 s, .slice A n c]] w fun e w' => ∃ sv, e = .returned (.tuple #[sv, .int .i64 0]) ∧ w'.ownsRow w.heap.size 5 1 sv (3 + 25 * n) ((hsB s hs).map (Value.int .u8)) ∧ Below w.heap.size w w' := by
  have HH := hide hh
  have HCK := hide hck
  clear hh hck
  go_enter Try.func11, Try.ntmps11
  go_wp2_with fail
  have hb0 : Below w.heap.size w (w.alloc (.cells #[.int .i64 s, .slice A n c] 24)) := (Below.refl _ _).alloc (Nat.le_refl _) _
  refine (check_any s A n c hs _ (HH.out.up hb0 hb0.size) hc hm).mono ?_
  rintro e w1 ⟨rfl, hb1⟩
  rw [HCK.out]
  rw [show errC true = 0 from rfl]
  have c0 : w1.cell? ⟨w.heap.size, 0, none⟩ = some (.int .i64 s) := by rw [hb1.cell (by simp)]; simp
  have c1 : w1.cell? ⟨w.heap.size, 1, none⟩ = some (.slice A n c) := by rw [hb1.cell (by simp)]; simp
  have HB1 := hide (hb0.trans (hb1.mono hb0.size))
  clear hb0 hb1
  go_upto_region 4 with fail
  have hs0 : 0 ≤ s ∧ s ≤ 88 := by
    have := HCK.out
    unfold chkB at this
    simp only [Bool.and_eq_true, decide_eq_true_eq] at this
    omega
  obtain ⟨hs0, hs1⟩ := hs0
  obtain ⟨i8, hi8, hz8, hs8, hb8⟩ := info_parts inf8
  have I8_ := hide (And.intro hi8 (And.intro hz8 (And.intro hs8 hb8)))
  clear hi8 hz8 hs8 hb8
  go_cut [5] (fun sv wc => wc.ownsRow w.heap.size 5 1 sv 3 ((putB s 2 ++ [(n : Int) % 256]).map (Value.int .u8)) ∧ wc.cell? ⟨w.heap.size, 1, none⟩ = some (.slice A n c) ∧ Below w.heap.size w wc ∧ w.heap.size < wc.heap.size)
  case first =>
    have hw0 : IntKind.u64.wrap s = s := by rw [IntKind.wrap_u64]; omega
    have hw1 : IntKind.u8.wrap (n : Int) = (n : Int) % 256 := by rw [IntKind.wrap_u8]
    have hle1 := HB1.out.size
    have hlt1 : w.heap.size < w1.heap.size := World.block_lt_of_cell? w1 ⟨w.heap.size, 0, none⟩ c0
    go_region_law (first
      | (refine step_append_any _ rfl (.tmp 18) (.tmp 23) 38 rfl w1.heap.size 5 i8 (.int .u8 0) 1 1 Try.underlying38 I8_.out.1 I8_.out.2.1 I8_.out.2.2.1 I8_.out.2.2.2 rfl (by omega) sv 2 ((putB s 2).map (Value.int .u8)) (by rfl) (by first | exact ho3.out | exact ho3.out.alloc _) _ _ 1 1 [.int .u8 ((n : Int) % 256)] (by rfl) (reads_one (by first | exact r1 | simp)) one_int (by unfold maxLen; omega) (by omega) (by first | omega | (simp; omega)) ?_
         intro v5 w5 hown5 hg5 _)
      | (go_simp
         go_at_call 24
         refine (put_n _ 2 2 _ rfl ⟨hs0, by omega⟩ (by omega)).mono ?_
         rintro e w3 ⟨sv, rfl, hown3, hb3⟩
         have r1 : w3.cell? ⟨w1.heap.size, 0, none⟩ = some (.int .u8 ((n : Int) % 256)) := by rw [hb3.cell (by simp)]; simp
         have HD3 : Hid (Below w1.heap.size w1 w3) := hide ((((Below.refl w1.heap.size w1).alloc (Nat.le_refl _) _).drew).trans (hb3.mono (le_alloc _ (Nat.le_refl _))))
         have ho3 := hide (own_base (b := w1.heap.size) hown3 (by simp))
         have hz3 : w1.heap.size ≤ w3.heap.size := by have := hb3.size; simp at this; omega
         have HB3 := hide hb3
         clear hown3 hb3)
      | (go_simp
         go_at_call 24
         refine (put_n _ 2 2 _ rfl ⟨hs0, by omega⟩ (by omega)).mono ?_
         rintro e w3 ⟨sv, rfl, hown3, hb3⟩
         have q1 : w3.cell? ⟨w.heap.size, 1, none⟩ = some (.slice A n c) := by rw [hb3.cell (by simp; omega)]; simp [c1]
         have HD3 : Hid (Below w1.heap.size w1 w3) := hide ((Below.refl w1.heap.size w1).drew.trans (hb3.mono (Nat.le_refl _)))
         have ho3 := hide (own_base (b := w1.heap.size) hown3 (by simp))
         have hz3 : w1.heap.size ≤ w3.heap.size := by have := hb3.size; simp at this; omega
         have HB3 := hide hb3
         clear hown3 hb3))
    all_goals
      have HE : Below w1.heap.size w3 w5 := by
        first
          | exact (Below.refl _ _).grown hg5 (by omega) (own_ge ho3.out)
          | exact ((Below.refl w1.heap.size w3).alloc (by omega) _).grown hg5 (le_alloc _ (by omega)) (own_ge ho3.out)
          | exact (((Below.refl w1.heap.size w3).drew).alloc (by simp; omega) _).grown hg5 (le_alloc _ (by simp; omega)) (own_ge ho3.out)
      have HF := hide (HD3.out.trans HE)
      have HO5 := hide hown5
      clear hown5 HE HD3 hg5
      go_wp2_with fail
      go_meet
      exact ⟨own_base (by simpa using HO5.out) hle1, (HF.out.cell (p := ⟨w.heap.size, 1, none⟩) hlt1).trans c1, HB1.out.trans (HF.out.mono hle1), Nat.lt_of_lt_of_le hlt1 HF.out.size⟩
  case rest =>
    obtain ⟨hown, hcL, hbel, hltc⟩ := hcut
    have HO := hide hown
    have HB := hide hbel
    have HLN := hide (chk_len HCK.out)
    clear hown hbel c0 c1 HB1
    obtain ⟨iH, hiH, hzH, hsH, _⟩ := info_parts infH
    have IH := hide (And.intro hiH (And.intro hzH hsH))
    clear hiH hzH hsH
    obtain ⟨iP, hiP, hzP, hsP, _⟩ := info_parts infP
    have IP := hide (And.intro hiP (And.intro hzP hsP))
    clear hiP hzP hsP
    have hn65 : n ≤ 65 := by have := HLN.out; have := HH.out.1; omega
    go_wp2
    go_loopw [5, 28] (fun sv i wr => ByRel s hs w A n sv i wr) (fun _ i _ => n - (intOf i).toNat)
    case atStart => exact ⟨0, by omega, rfl, by simpa using HO.out, HH.out.below HB.out, HB.out⟩
    case round =>
      obtain ⟨k, hk, rfl, hown, hat, hbel⟩ := hrel
      have HOr := hide hown
      have HBr := hide hbel
      clear hown hbel HO HB
      by_cases hlt : k < n
      · obtain ⟨ad, x, rfl, hab, hx, hxw, hcell⟩ := hat.at_ hlt
        have HAB := hide (hd_at HCK.out hx)
        have HX := hide hx
        have HAT := hide hat
        have HC := hide hcell
        have HW := hide hxw
        clear hx hat hcell hxw
        obtain ⟨ha0, ha1⟩ := HAB.out
        have hszr := HBr.out.size
        go_wp2_with (first
          | (refine wpList_load_at rfl 34 (.tmp 30) rfl (ad.add (k * 23)) rfl x.cells _ HC.out Try.underlying34 rfl (by rw [HD.cells_len HW.out, IH.out.1]; simp [IH.out.2.2]) ?_)
          | (refine wpList_new rfl rfl 34 (.tmp 7) (.tmp 31) rfl rfl iH _ (.agg x.cells.toArray) x.cells.toArray IH.out.1 IH.out.2.1 (by rw [IH.out.2.2]; rfl) rfl (by rw [IH.out.2.2]; simpa using HD.cells_len HW.out) (HD.one x) (by rfl) (by rfl) ?_
             intro w1 g1 G1 X1 L1
             have q1 : w1.cell? ⟨g1, 0, none⟩ = some (.int .i64 x.at_) := by simpa [HD.cells] using X1.cell 0
             have HX1 := hide X1
             have HL1 := hide L1
             clear X1 L1)
          | (go_at_call 24
             refine (put_n _ 3 3 _ rfl ⟨ha0, by omega⟩ (by omega)).mono ?_
             rintro e w3 ⟨sv3, rfl, hown3, hb3⟩
             obtain ⟨A3, c3, rfl, hc3, rd3⟩ := own_slice hown3 (by omega)
             have hs1 := HL1.out.size
             have HB3 := hide (HL1.out.trans (hb3.mono hs1))
             have HX3 := hide (HX1.out.below hb3 HX1.out.lt)
             have HR3 := hide rd3
             clear hown3 hb3 q1 rd3)
          | (at_builtin
             refine wpList_append_any _ rfl (.tmp 32) (.tmp 36) _ rfl w.heap.size 5 i8 _ 1 1 Try.underlying38 I8_.out.1 I8_.out.2.1 I8_.out.2.2.1 I8_.out.2.2.2 rfl (by omega) u5 (3 + 25 * k) _ (by rfl) (own_below HOr.out HB3.out) _ A3 3 c3 _ (by rfl) HR3.out (by intro u hu; simp at hu; obtain ⟨a, _, rfl⟩ := hu; rfl) (by simp only [maxLen]; omega) (by omega) (Nat.le_trans hszr HB3.out.size) ?_
             intro v4 w4 hown4 hg4 _
             have hs3 := HB3.out.size
             have hk4 : Below w.heap.size wr w4 := (HB3.out.mono hszr).grown hg4 (by omega) (own_ge HOr.out)
             have HAT4 := hide (HAT.out.below hk4)
             have HB4 := hide (HBr.out.trans hk4)
             have HP4 := hide (blk_tail (HX3.out.grown hg4 (fun e => own_blk_ne (own_below HOr.out HB3.out) HX3.out (by decide) e.symm)))
             have HO4 := hide hown4
             clear hown4 hg4 hk4)
          | (refine wpList_load_at rfl 32 (.tmp 38) rfl ⟨g1, 1, none⟩ rfl (plCells x.pl) _ HP4.out Try.underlying32 rfl (by rw [plCells_len, HW.out.2.1]; kernel_rfl) ?_))
        obtain ⟨wo, rfl⟩ : ∃ wo : World, wo = wr := ⟨_, rfl⟩
        go_loopw [5, 40] (fun sv i wq => BiRel (putB s 2 ++ [(n : Int) % 256] ++ (hs.take k).flatMap hdB ++ putB x.at_ 3) x.pl hs w (some ad) n (3 + 25 * k + 3) sv i wq) (fun _ i _ => 11 - (intOf i).toNat)
        case atStart => exact ⟨0, by omega, rfl, by simpa [plB] using HO4.out, HAT4.out, HB4.out⟩
        case round =>
          obtain ⟨j, hj, rfl, hownq, hatq, hbq⟩ := hrel
          have HOq := hide hownq
          have HATq := hide hatq
          have HBq := hide hbq
          clear hownq hatq hbq HO4 HP4 HB4 HAT4 HOr HBr HAT HC
          have hszq := HBq.out.size
          by_cases hlj : j < 11
          · have hxl : j < x.pl.length := by rw [HW.out.2.1]; exact hlj
            obtain ⟨pp, hpp⟩ : ∃ p, plD x.pl j = p := ⟨_, rfl⟩
            have hV := HW.out.2.2 pp (List.mem_of_getElem? (plD_at hxl hpp))
            have HPP := hide (plD_at hxl hpp)
            clear hpp
            obtain ⟨pa, pb⟩ := pp
            have HV := hide hV
            clear hV
            go_wp2_with (first
              | (refine wpList_index_agg rfl 32 31 (.tmp 39) (.tmp 40) rfl 11 2 _ .i64 j _ Try.underlying32 Try.underlying31 rfl (by kernel_rfl) hlj rfl rfl _ (plCells_at x.pl j (pa, pb) HPP.out) ?_)
              | (refine wpList_new rfl rfl 31 (.tmp 9) (.tmp 42) rfl rfl iP _ (.agg #[.int .i8 pa, .int .i8 pb]) #[.int .i8 pa, .int .i8 pb] IP.out.1 IP.out.2.1 (by rw [IP.out.2.2]; first | done | rfl) rfl (by rw [IP.out.2.2]; first | done | rfl) (one2 _ _ _) (by rfl) (by rfl) ?_
                 intro w5 g5 G5 X5 L5
                 have c50 := X5.cell 0
                 have c51 := X5.cell 1
                 simp at c50 c51
                 have HL5 := hide L5
                 clear X5 L5)
              | (at_builtin
                 refine wpList_append_any _ rfl (.tmp 43) (.tmp 50) _ rfl w.heap.size 5 i8 _ 1 1 Try.underlying38 I8_.out.1 I8_.out.2.1 I8_.out.2.2.1 I8_.out.2.2.2 rfl (by omega) u5 (3 + 25 * k + 3 + 2 * j) _ (by rfl) ((own_below HOq.out HL5.out).alloc _) _ _ 2 2 [.int .u8 (pa % 256), .int .u8 (pb % 256)] (by rfl) (reads_new _ _ _ 2 rfl) (by intro u hu; simp at hu; rcases hu with rfl | rfl <;> rfl) (by simp only [maxLen]; omega) (by omega) (le_alloc _ (Nat.le_trans hszq HL5.out.size)) ?_
                 intro v6 w6 hown6 hg6 _
                 have hs5 := HL5.out.size
                 have hk6 : Below w.heap.size wr w6 := (((HL5.out.mono hszq).alloc (by omega) _).grown hg6 (le_alloc _ (by omega)) (own_ge HOq.out))
                 have HAT6 := hide (HATq.out.below hk6)
                 have HB6 := hide (HBq.out.trans hk6)
                 have HO6 := hide hown6
                 clear hown6 hg6 hk6))
            go_roundw
            case measure => simp [intOf]; omega
            case rel =>
              refine ⟨j + 1, by omega, by go_num, ?_, HAT6.out, HB6.out⟩
              have := HO6.out
              rw [plB_take HPP.out]
              simpa [Nat.mul_add, Nat.add_assoc] using this
          · obtain rfl : j = 11 := by omega
            clear hj hlj
            go_wp2
            go_roundw
            case measure => simp [intOf]; omega
            case rel =>
              refine ⟨k + 1, by omega, by go_num, ?_, HATq.out, HBq.out⟩
              have h1 := HOq.out
              rw [show x.pl.take 11 = x.pl from List.take_of_length_le (by have := HW.out.2.1; omega)] at h1
              rw [flat_take hdB HX.out, show 3 + 25 * (k + 1) = 3 + 25 * k + 3 + 2 * 11 by omega]
              simpa [hdB] using h1
      · obtain rfl : k = n := by omega
        clear hk hlt
        go_wp2
        go_ret2
        refine ⟨_, rfl, ?_, HBr.out⟩
        have := HOr.out
        rw [List.take_of_length_le (by have := HH.out.1; omega)] at this
        unfold hsB
        rw [HH.out.1]
        exact this
set_option maxHeartbeats 400000 in
theorem bytes_no (s : Int) (A : Option Addr) (n c : Nat) (hs : List HD) (w : World) (hh : HintsAt w w.heap.size A n hs) (hc : n ≤ c) (hm : n < 9223372036854775808) (hck : chkB s hs = false) :
    Calls Try.prog 11 #[.agg #[.int .i64 s, .slice A n c]] w fun e w' => e = .returned (.tuple #[.slice none 0 0, .int .i64 250]) ∧ Below w.heap.size w w' := by
  have HH := hide hh
  have HCK := hide hck
  clear hh hck
  go_enter Try.func11, Try.ntmps11
  go_wp2_with fail
  have hb0 : Below w.heap.size w (w.alloc (.cells #[.int .i64 s, .slice A n c] 24)) := (Below.refl _ _).alloc (Nat.le_refl _) _
  refine (check_any s A n c hs _ (HH.out.up hb0 hb0.size) hc hm).mono ?_
  rintro e w1 ⟨rfl, hb1⟩
  rw [HCK.out]
  rw [show errC false = 250 from rfl]
  have HB1 := hide (hb0.trans (hb1.mono hb0.size))
  clear hb0 hb1
  go_wp2
  go_ret2
  exact ⟨rfl, HB1.out⟩
def hd0 : HD := ⟨0, List.replicate 11 (0, 0)⟩
theorem hd0_wf : hd0.wf := ⟨⟨by show (-9223372036854775808 : Int) ≤ 0; omega, by show (0 : Int) < 9223372036854775808; omega⟩, by simp [hd0], by intro p hp; simp [hd0] at hp; subst hp; exact ⟨⟨by omega, by omega⟩, ⟨by omega, by omega⟩⟩⟩
theorem hints_new (w : World) (x : HD) (hx : x.wf) : HintsAt (w.alloc (.cells x.cells.toArray 34)) (w.heap.size + 1) (some ⟨w.heap.size, 0, none⟩) 1 [x] := by
  refine ⟨rfl, by simpa using hx, by simp [HD.cells_len hx], fun _ => ⟨_, rfl, Nat.lt_succ_self _, fun j u hu => ?_⟩⟩
  exact blk_list (Blk.new w _ _) j u (by simpa using hu)
set_option maxHeartbeats 400000 in
theorem first_any (w : World) :
    Calls Try.prog 17 #[] w fun e w' => ∃ A, e = .returned (.agg #[.int .i64 0, .slice A 1 1]) ∧ HintsAt w' w'.heap.size A 1 [hd0] ∧ Below w.heap.size w w' := by
  have hmk : ∀ W : World, (Instr.makeSlice 22 (.int .i64 1) (.int .i64 1)).run Try.prog W = .ok (.slice (some ⟨W.heap.size, 0, none⟩) 1 1) (W.alloc (.cells hd0.cells.toArray 34)) := fun _ => by kernel_rfl
  go_enter Try.func17, Try.ntmps17
  go_wp2
  refine bodyPost_ret (v := .agg #[.int .i64 0, .slice (some ⟨w.heap.size + 1, 0, none⟩) 1 1]) (by simp [results, Try.results17, go_sem]) rfl ⟨_, rfl, ?_, ((Below.refl _ _).alloc (Nat.le_refl _) _).alloc (le_alloc _ (Nat.le_refl _)) _⟩
  have := hints_new (w.alloc (.cells #[.int .i64 0, .slice (some ⟨w.heap.size + 1, 0, none⟩) 1 1] 24)) hd0 hd0_wf
  simpa using this
end Go.Proofs.Ytmnokkomhgpmmaa
