/-
  hints.Read: hints out of bytes. Conditions: those written in each statement.
-/
import Derived.Test.YtmnokkomhgpmmaaPn
import Derived.Test.YtmnokkomhgpmmaaPush
import Derived.Test.YtmnokkomhgpmmaaMid
import Derived.StillTailTactics
namespace Go.Proofs.Ytmnokkomhgpmmaa
open Go.RowKit
set_option linter.unusedVariables false
set_option linter.unusedSimpArgs false
theorem Reads.take {w : World} {B n m : Nat} {A : Option Addr} {l : List Int} (h : Reads w B 1 A n (l.map (Value.int .u8))) (hm : m ≤ n) : Reads w B 1 A m ((l.take m).map (Value.int .u8)) := by
  have hl : l.length = n := by have := h.1; simpa using this
  refine ⟨by simp; omega, fun h0 => ?_⟩
  obtain ⟨ad, e, hb, hc⟩ := h.2 (by omega)
  refine ⟨ad, e, hb, fun j u hu => hc j u ?_⟩
  have hj : j < m := by have := (List.getElem?_eq_some_iff.1 hu).1; simp at this; omega
  simpa [List.getElem?_take, hj] using hu
theorem IsBytes.take {l : List Int} (h : IsBytes l) (m : Nat) : IsBytes (l.take m) := fun x hx => h x (List.mem_of_mem_take hx)
theorem IsBytes.drop {l : List Int} (h : IsBytes l) (m : Nat) : IsBytes (l.drop m) := fun x hx => h x (List.mem_of_mem_drop hx)
def rdOk (b : List Int) : Bool := decide (3 ≤ b.length) && ((b.length : Int) - 3 == 25 * b.getD 2 0)
def rdS (b : List Int) : Int := getB (b.take 2)
def rdL (b : List Int) : List HD := rdHs (b.getD 2 0).toNat (b.drop 3)
def rdGood (b : List Int) : Bool := rdOk b && chkB (rdS b) (rdL b)
/-- What reading gives: hints and OK, or none and ErrCode. -/
def GivesHints (b : List Int) (w : World) (e : Ending) (w' : World) : Prop :=
  Below w.heap.size w w' ∧ ((rdGood b = true ∧ ∃ A n c, n ≤ c ∧ n < 256 ∧ e = .returned (.tuple #[.agg #[.int .i64 (rdS b), .slice A n c], .int .i64 0]) ∧ HintsAt w' w'.heap.size A n (rdL b)) ∨
    (rdGood b = false ∧ e = .returned (.tuple #[.agg #[.int .i64 0, .slice none 0 0], .int .i64 30])))
theorem rdHs_snoc : ∀ (k : Nat) (b : List Int), rdHs (k + 1) b = rdHs k b ++ [rdH (b.drop (25 * k))]
  | 0, b => by simp [rdHs]
  | k + 1, b => by
    rw [rdHs, rdHs_snoc k, rdHs, List.drop_drop]
    simp [Nat.mul_add, Nat.add_comm]
theorem rdH_wf {b : List Int} (hb : IsBytes b) (hl : 25 ≤ b.length) : (rdH b).wf := by
  have hg := getB_bd (b.take 3) (hb.take 3)
  rw [show (256 : Int) ^ (b.take 3).length = 16777216 by rw [List.length_take, Nat.min_eq_left (by omega)]; rfl] at hg
  refine ⟨⟨by show -9223372036854775808 ≤ getB (b.take 3); omega, by show getB (b.take 3) < 9223372036854775808; omega⟩, ?_, fun p hp => rdPl_bd _ p hp⟩
  have := rdPl_len ((b.drop 3).take 22) (by rw [List.length_take, List.length_drop, Nat.min_eq_left (by omega)])
  rw [List.length_take, List.length_drop, Nat.min_eq_left (by omega)] at this
  show (rdPl ((b.drop 3).take 22)).length = 11
  omega
/-- The cells of a block that is being read: j places are there. -/
def partC (x : HD) (j : Nat) : List Value := .int .i64 x.at_ :: (plCells (x.pl.take j) ++ List.replicate (22 - 2 * j) (.int .i8 0))
theorem partC_len {x : HD} (hx : x.wf) {j : Nat} (hj : j ≤ 11) : (partC x j).length = 23 := by
  unfold partC
  rw [List.length_cons, List.length_append, plCells_len, List.length_take, List.length_replicate, hx.2.1]
  omega
theorem partC_step {x : HD} (hx : x.wf) {j : Nat} (hj : j < 11) {p : Int × Int} (hp : x.pl[j]? = some p) : overC (partC x j) (1 + 2 * j) [.int .i8 p.1, .int .i8 p.2] = partC x (j + 1) := by
  have ht : (plCells (x.pl.take j)).length = 2 * j := by rw [plCells_len, List.length_take, hx.2.1, Nat.min_eq_left (by omega)]
  unfold overC partC
  rw [show 1 + 2 * j = 2 * j + 1 by omega, List.take_succ_cons, List.take_append_of_le_length (by omega), List.take_of_length_le (by omega)]
  rw [show 2 * j + 1 + [Value.int .i8 p.1, .int .i8 p.2].length = (2 * j + 2) + 1 by simp, List.drop_succ_cons, List.drop_append, List.drop_of_length_le (by omega), ht]
  rw [show plCells (x.pl.take (j + 1)) = plCells (x.pl.take j) ++ [.int .i8 p.1, .int .i8 p.2] from flat_take _ hp]
  simp [Nat.sub_sub, Nat.mul_add]
theorem all_oneL (x : HD) : ∀ u ∈ x.cells, u.oneCell' = true := by
  intro v hv
  unfold HD.cells plCells at hv
  simp at hv
  rcases hv with rfl | ⟨a, b, _, rfl | rfl⟩ <;> rfl
theorem partC_one (x : HD) (j : Nat) : ∀ u ∈ partC x j, u.oneCell' = true := by
  intro v hv
  unfold partC plCells at hv
  simp only [List.mem_cons, List.mem_append, List.mem_flatMap, List.mem_replicate, List.not_mem_nil, or_false] at hv
  rcases hv with rfl | ⟨a, _, rfl | rfl⟩ | ⟨_, rfl⟩ <;> rfl
theorem partC_all {x : HD} (hx : x.wf) : partC x 11 = x.cells := by
  unfold partC HD.cells
  rw [List.take_of_length_le (by rw [hx.2.1]; omega)]
  simp
/-- What stands while a block is read. -/
structure RdF (sp : Int) (b' : List Int) (hs : List HD) (k q : Nat) (A : Option Addr) (sv : Value) (w W : World) : Prop where
  reads : Reads W w.heap.size 1 A q (b'.map (Value.int .u8))
  blk : Blk W w.heap.size 24 #[.int .i64 sp, sv]
  own : W.ownsRow (w.heap.size + 1) 34 23 sv k (hs.flatMap HD.cells)
  below : Below w.heap.size w W
section
variable {sp : Int} {b' : List Int} {hs : List HD} {k q : Nat} {A : Option Addr} {sv : Value} {w W V : World}
theorem RdF.lt (h : RdF sp b' hs k q A sv w W) : w.heap.size < W.heap.size := h.blk.lt
theorem RdF.step (h : RdF sp b' hs k q A sv w W) (hb : Below W.heap.size W V) : RdF sp b' hs k q A sv w V :=
  ⟨h.reads.keep fun p hp => hb.cell (Nat.lt_trans hp h.lt), h.blk.below hb h.lt, own_below h.own hb, h.below.trans (hb.mono (Nat.le_of_lt h.lt))⟩
theorem RdF.only {g : Nat} (h : RdF sp b' hs k q A sv w W) (hg : W.grownBy V (some g)) (h0 : w.heap.size < g) (hne : sv.ownBlock ≠ some g) : RdF sp b' hs k q A sv w V :=
  ⟨h.reads.grown hg (Nat.le_of_lt h.lt) (fun g' e => by injection e with e; omega), h.blk.grown hg (fun e => by injection e with e; omega), h.own.kept hg (.inr hne), h.below.grown hg (Nat.le_of_lt h.lt) (fun g' e => by injection e with e; omega)⟩
theorem RdF.drew (h : RdF sp b' hs k q A sv w W) : RdF sp b' hs k q A sv w W.drew := ⟨h.reads, h.blk, h.own, h.below.drew⟩
end
theorem own_lt {w : World} {base e size n : Nat} {v : Value} {xs : List Value} (h : w.ownsRow base e size v n xs) : ∀ g, v.ownBlock = some g → g < w.heap.size := by
  intro g hg
  rcases h.2 with ⟨rfl, _⟩ | ⟨g', cap, cur, rfl, _, hh, _⟩
  · simp [Value.ownBlock] at hg
  · simp [Value.ownBlock] at hg
    subst hg
    exact Blk.lt (t := e) hh
def InRel (sp : Int) (b' : List Int) (hs : List HD) (k q : Nat) (A : Option Addr) (sv : Value) (w : World) (x : HD) (g : Nat) (i : Value) (wr : World) : Prop :=
  ∃ j : Nat, j ≤ 11 ∧ i = .int .i64 j ∧ Blk wr g 34 (partC x j).toArray ∧ RdF sp b' hs k q A sv w wr
theorem rdHs_all {b : List Int} {m : Nat} (hb : IsBytes b) (hl : 3 + 25 * m = b.length) : (rdHs m (b.drop 3)).length = m ∧ ∀ h ∈ rdHs m (b.drop 3), h.wf := by
  refine ⟨rdHs_len _ _, ?_⟩
  have : ∀ (m : Nat) (c : List Int), IsBytes c → c.length = 25 * m → ∀ h ∈ rdHs m c, h.wf := by
    intro m
    induction m with
    | zero => intro c _ _ h hh; simp [rdHs] at hh
    | succ m ih =>
      intro c hc hlc h hh
      rw [rdHs, List.mem_cons] at hh
      rcases hh with rfl | hh
      · exact rdH_wf hc (by omega)
      · exact ih _ (hc.drop 25) (by rw [List.length_drop]; omega) h hh
  exact this m _ (hb.drop 3) (by rw [List.length_drop]; omega)
theorem hO_hints {w : World} {base n : Nat} {v : Value} {hs : List HD} (h : w.ownsRow base 34 23 v n (hs.flatMap HD.cells)) (hw : hs.length = n ∧ ∀ h ∈ hs, h.wf) : ∃ A c, v = .slice A n c ∧ n ≤ c ∧ HintsAt w w.heap.size A n hs := by
  obtain ⟨A, c, e, hc, hr⟩ := own_slice h (by omega)
  exact ⟨A, c, e, hc, hw.1, hw.2, hr⟩
def RdRel (b : List Int) (m : Nat) (sp : Int) (W : World) (bv : Value) (wr : World) : Prop :=
  ∃ (k q : Nat) (A : Option Addr) (c : Nat) (sv : Value), k ≤ m ∧ q + 25 * k = 25 * m ∧ bv = .slice A q c ∧ q ≤ c ∧ Reads wr W.heap.size 1 A q ((b.drop (3 + 25 * k)).map (Value.int .u8)) ∧ Blk wr W.heap.size 24 #[.int .i64 sp, sv] ∧
    wr.ownsRow (W.heap.size + 1) 34 23 sv k ((rdHs k (b.drop 3)).flatMap HD.cells) ∧ Below W.heap.size W wr
def lenOf (v : Value) : Nat := match v with | .slice _ n _ => n | _ => 0
/-- What the loop leaves. -/
def Left25 (b : List Int) (m : Nat) (sp : Int) (W : World) (wr : World) : Prop :=
  ∃ (sv : Value), Blk wr W.heap.size 24 #[.int .i64 sp, sv] ∧ wr.ownsRow (W.heap.size + 1) 34 23 sv m ((rdHs m (b.drop 3)).flatMap HD.cells) ∧ Below W.heap.size W wr
set_option maxRecDepth 100000 in
set_option maxHeartbeats 2000000 in
theorem read_any (b : List Int) (A : Option Addr) (n c : Nat) (w : World) (hl : b.length = n) (hr : Reads w w.heap.size 1 A n (b.map (Value.int .u8))) (hb : IsBytes b) (hc : n ≤ c) (hm : n < 9223372036854775808) :
    Calls Try.prog 19 #[.slice A n c] w (GivesHints b w) := by
  have HL := hide hl
  have HR := hide hr
  have HB := hide hb
  clear hl hr hb
  by_cases h3 : 3 ≤ n
  · have h3' : 2 ≤ n := by omega
    obtain ⟨ad, rfl, hab, hcell⟩ := HR.out.2 (by omega)
    obtain ⟨x2, hx2⟩ : ∃ x, b[2]? = some x := ⟨b[2]'(by have := HL.out; omega), List.getElem?_eq_getElem _⟩
    have c2 : w.cell? ⟨ad.block, ad.off + 2, none⟩ = some (.int .u8 x2) := by
      have := hcell 2 (.int .u8 x2) (by simp [hx2])
      unfold Addr.add at this
      rwa [if_neg (by omega)] at this
    obtain ⟨x20, x21⟩ := HB.out x2 (List.mem_of_getElem? hx2)
    have HX2 := hide hx2
    clear hx2 hcell
    by_cases hn : (n : Int) - 3 = 25 * x2
    · have bn : ((n : Int) - 3 != 25 * x2) = false := by simpa using hn
      have HN := hide hn
      clear hn
      go_enter Try.func19, Try.ntmps19
      go_wp2_with fail
      have hg := getB_bd (b.take 2) (HB.out.take 2)
      rw [show (256 : Int) ^ (b.take 2).length = 65536 by rw [List.length_take, Nat.min_eq_left (by have := HL.out; omega)]; rfl] at hg
      refine (get_any (b.take 2) _ (some ad) 2 c _ (by rw [List.length_take]; have := HL.out; omega) ((HR.out.take h3').alloc (Nat.le_refl _) _) (HB.out.take 2) (by omega)).mono ?_
      rintro e w' ⟨rfl, rfl⟩
      obtain ⟨g0, g1⟩ := hg
      obtain ⟨sp, hsp⟩ : ∃ s, getB (b.take 2) = s := ⟨_, rfl⟩
      rw [hsp] at g0 g1 ⊢
      have HSP := hide hsp
      clear hsp
      have hu16 : IntKind.u16.wrap sp = sp := by rw [IntKind.wrap_u16]; omega
      have h3n : 3 ≤ n := h3
      go_wp2_with (refine wpList_from rfl 38 5 (.tmp 27) _ rfl Try.underlying38 1 (by kernel_rfl) (some ad) n c 3 .i64 (by rfl) (by rfl) h3 hc w.heap.size _ (HR.out.alloc (Nat.le_refl _) _) ?_; intro A1 R1)
      obtain ⟨m, hm2⟩ : ∃ m : Nat, x2 = (m : Int) := ⟨x2.toNat, by omega⟩
      have hqn : (n - 3) + 25 * 0 = 25 * m := by have := HN.out; omega
      have hm256 : m < 256 := by omega
      have HQN := hide hqn
      have HM2 := hide hm2
      have HX2' := hide (show (b.getD 2 0).toNat = m by rw [List.getD_eq_getElem?_getD, HX2.out, Option.getD_some]; omega)
      have hbl : 3 + 25 * m = b.length := by have := HL.out; omega
      have HBL := hide hbl
      clear hqn hm2 hbl
      obtain ⟨iH, hiH, hzH, hsH, hbH⟩ := info_parts infH
      have IH := hide (And.intro hiH (And.intro hzH (And.intro hsH hbH)))
      clear hiH hzH hsH hbH
      go_loopw [0] (fun bv wr => RdRel b m sp w bv wr) (fun bv _ => lenOf bv)
      case atStart => exact ⟨0, n - 3, A1, c - 3, _, by omega, HQN.out, rfl, by omega, by simpa using R1, Blk.new w _ _, ⟨rfl, .inl ⟨rfl, rfl⟩⟩, (Below.refl _ _).alloc (Nat.le_refl _) _⟩
      case round =>
        obtain ⟨k, q, A, c', sv, hk, hq, rfl, hqc, hr, hblk, hown, hbel⟩ := hrel
        have HQ := hide hq
        have HRr := hide hr
        have HK := hide hblk
        have HO := hide hown
        have HBe := hide hbel
        have hq5 : q ≤ 6375 := by omega
        clear hq hr hblk hown hbel
        by_cases hlt : k < m
        · have hq25 : 25 ≤ q := by have := HQ.out; omega
          have hq0 : 0 < q := by omega
          have hq3 : 3 ≤ q := by omega
          have hbd := getB_bd (((b.drop (3 + 25 * k))).take 3) ((HB.out.drop _).take 3)
          have hl3 : ((b.drop (3 + 25 * k)).take 3).length = 3 := by rw [List.length_take, List.length_drop]; have := HBL.out; omega
          rw [hl3, show (256 : Int) ^ 3 = 16777216 from rfl] at hbd
          go_wp2_with fail
          refine (get_any _ _ A 3 c' _ hl3 (by simpa using (HRr.out.take hq3)) ((HB.out.drop _).take 3) (by omega)).mono ?_
          rintro e w' ⟨rfl, rfl⟩
          obtain ⟨v0, v1⟩ := hbd
          have hxx : (rdH (b.drop (3 + 25 * k))).at_ = getB ((b.drop (3 + 25 * k)).take 3) := rfl
          have hxw := rdH_wf (HB.out.drop (3 + 25 * k)) (by rw [List.length_drop]; have := HBL.out; omega)
          obtain ⟨x, hx⟩ : ∃ x, rdH (b.drop (3 + 25 * k)) = x := ⟨_, rfl⟩
          rw [hx] at hxx hxw
          rw [← hxx] at v0 v1 ⊢
          have HX := hide hx
          have HW := hide hxw
          clear hx hxx hxw hl3
          generalize hat : x.at_ = at_ at v0 v1 ⊢
          have HAT := hide hat
          clear hat
          have hp0 : (Value.agg #[.int .i64 at_, .int .i8 0, .int .i8 0, .int .i8 0, .int .i8 0, .int .i8 0, .int .i8 0, .int .i8 0, .int .i8 0, .int .i8 0, .int .i8 0, .int .i8 0, .int .i8 0, .int .i8 0, .int .i8 0, .int .i8 0, .int .i8 0, .int .i8 0, .int .i8 0, .int .i8 0, .int .i8 0, .int .i8 0, .int .i8 0]).cells = (partC x 0).toArray := by
            unfold partC; rw [HAT.out]; rfl
          have HP0 := hide hp0
          clear hp0
          have hbu : ∀ W : World, (Instr.build 34 #[(0, .int .i64 at_)]).run Try.prog W = .ok (Value.agg #[.int .i64 at_, .int .i8 0, .int .i8 0, .int .i8 0, .int .i8 0, .int .i8 0, .int .i8 0, .int .i8 0, .int .i8 0, .int .i8 0, .int .i8 0, .int .i8 0, .int .i8 0, .int .i8 0, .int .i8 0, .int .i8 0, .int .i8 0, .int .i8 0, .int .i8 0, .int .i8 0, .int .i8 0, .int .i8 0, .int .i8 0]) W := fun W => by kernel_rfl
          go_wp2_with (refine wpList_new rfl rfl 34 (.tmp 4) (.tmp 38) rfl rfl iH _ _ (partC x 0).toArray IH.out.1 IH.out.2.1 (by rw [IH.out.2.2.1]; rfl) HP0.out (by rw [IH.out.2.2.1]; simpa using partC_len HW.out (j := 0) (by omega)) (all_one (partC_one x 0)) (by rfl) (by rfl) ?_
                       intro w1 g1 G1 X1 L1)
          have HF1 := hide ((RdF.mk HRr.out HK.out HO.out HBe.out : RdF sp _ _ k q A sv w wr).step L1)
          have hne : sv.ownBlock ≠ some g1 := fun e => by have := own_lt HO.out g1 e; omega
          have hgw : w.heap.size < g1 := by have := HK.out.lt; omega
          have HX1 := hide X1
          clear X1 L1 HRr HK HO HBe
          obtain ⟨wo, rfl⟩ : ∃ wo : World, wo = wr := ⟨_, rfl⟩
          go_loopw [39] (fun i wq => InRel sp (b.drop (3 + 25 * k)) (rdHs k (b.drop 3)) k q A sv w x g1 i wq) (fun i _ => 11 - (intOf i).toNat)
          case atStart => exact ⟨0, by omega, rfl, HX1.out, HF1.out⟩
          case round =>
            obtain ⟨j, hj, rfl, hxb, hf⟩ := hrel
            have HXB := hide hxb
            have HF := hide hf
            clear hxb hf HX1 HF1
            by_cases hlj : j < 11
            · have h3j : 3 + 2 * j < q := by omega
              have h4j : 4 + 2 * j < q := by omega
              obtain ⟨ad2, u1, rfl, _, hu1, hcu1⟩ := HF.out.reads.at_ h3j
              obtain ⟨ad3, u2, e3, _, hu2, hcu2⟩ := HF.out.reads.at_ h4j
              obtain rfl : ad2 = ad3 := by injection e3
              rw [List.getElem?_map] at hu1 hu2
              obtain ⟨y1, hy1, rfl⟩ := Option.map_eq_some_iff.1 hu1
              obtain ⟨y2, hy2, rfl⟩ := Option.map_eq_some_iff.1 hu2
              have HY1 := hide hy1
              have HY2 := hide hy2
              clear hu1 hu2 hy1 hy2 e3
              have hsh : IntKind.i64.wrap ((j : Int) * 2) = (j : Int) * 2 := IntWalk.i64_in _ (by omega)
              have hw3 : IntKind.i64.wrap (3 + (j : Int) * 2) = 3 + (j : Int) * 2 := IntWalk.i64_in _ (by omega)
              have hw4 : IntKind.i64.wrap (4 + (j : Int) * 2) = 4 + (j : Int) * 2 := IntWalk.i64_in _ (by omega)
              have hp3 : 0 ≤ 3 + (j : Int) * 2 := by omega
              have hp4 : 0 ≤ 4 + (j : Int) * 2 := by omega
              have hq3' : 3 + (j : Int) * 2 < q := by omega
              have hq4' : 4 + (j : Int) * 2 < q := by omega
              have ht3 : (3 + (j : Int) * 2).toNat = 3 + 2 * j := by omega
              have ht4 : (4 + (j : Int) * 2).toNat = 4 + 2 * j := by omega
              have hlj' : (j : Int) < 11 := by omega
              go_wp2_with fail
              go_still_tail 18, (by kernel_rfl)
              change wpList _ _ _ _ _ wr.drew
              refine wpList_store_at rfl 31 (.tmp 59) (.tmp 57) rfl g1 (1 + 2 * j) 34 (partC x j) [.int .i8 (i8 y1), .int .i8 (i8 y2)] (.agg #[.int .i8 (i8 y1), .int .i8 (i8 y2)]) HXB.out.drew ?hx ?hy rfl (by kernel_rfl) (by rw [partC_len HW.out hj]; simp; omega) (by intro u hu; simp at hu; rcases hu with rfl | rfl <;> rfl) ?_
              case hx => simp [Act.eval, Array.getD]
              case hy => simp [Act.eval, Array.getD, i8]
              intro w5 X5 G5 S5
              have hpx : x.pl[j]? = some (i8 y1, i8 y2) := by
                rw [← HX.out]
                unfold rdH
                dsimp only
                refine rdPl_at _ j y1 y2 ?_ ?_
                · rw [List.getElem?_take, if_pos (by omega), List.getElem?_drop]; exact HY1.out
                · rw [List.getElem?_take, if_pos (by omega), List.getElem?_drop, show 3 + (2 * j + 1) = 4 + 2 * j by omega]; exact HY2.out
              rw [partC_step HW.out hlj hpx] at X5
              have HX5 := hide X5
              have HF5 := hide (HF.out.drew.only G5 hgw hne)
              clear X5 G5 S5 HF HXB hcu1 hcu2 hpx hw3 hw4 hp3 hp4 hq3' hq4' ht3 ht4 hsh
              go_wp2
              go_roundw
              case measure => simp [intOf]; omega
              case rel => exact ⟨j + 1, by omega, by go_num, HX5.out, HF5.out⟩
            · obtain rfl : j = 11 := by omega
              clear hlj hj
              have hX := HXB.out
              rw [partC_all HW.out] at hX
              have hc0 := hX
              have HXX := hide hX
              have hs0 : wr.cell? ⟨w.heap.size, 1, none⟩ = some sv := by rw [HF.out.blk.cell 1]; rfl
              clear hX hc0
              go_wp2_with (first
                | (refine wpList_load_at rfl 34 (.tmp 4) rfl ⟨g1, 0, none⟩ rfl x.cells _ (blk_list HXX.out) Try.underlying34 rfl (by rw [HD.cells_len HW.out]; kernel_rfl) ?_)
                | (refine wpList_push rfl rfl 22 34 (.tmp 63) (.tmp 62) (.tmp 64) rfl rfl (w.heap.size + 1) 23 32 iH _ (.agg x.cells.toArray) sv x.cells _ k Try.underlying22 IH.out.1 IH.out.2.1 IH.out.2.2.1 IH.out.2.2.2 rfl (by omega) (by omega) (by rfl) rfl (HD.cells_len HW.out) (all_oneL x) HF.out.own (by have := HF.out.lt; omega) (by unfold maxLen; omega) (by omega) (by rfl) (by rfl) ?_
                   intro v6 w6 g6 G6 O6 B6 P6
                   obtain ⟨A6, c6, rfl, hc6, hr6⟩ := own_slice O6 (by omega)
                   have hneb : (some w.heap.size : Option Nat) ≠ sv.ownBlock := fun e => own_blk_ne HF.out.own HF.out.blk (by decide) e.symm
                   have hb6 := HF.out.blk.grown P6 hneb
                   have q6 : w6.cell? ⟨w.heap.size, 1, none⟩ = some sv := by rw [hb6.cell 1]; rfl
                   have f6 : w6.frozen? ⟨w.heap.size, 1, none⟩ = false := hb6.frozen 1
                   have HB6 := hide hb6
                   have HO6 := hide O6
                   have HR6 := hide (HF.out.reads.keep (w' := w6) (fun p hp => B6.cell (Nat.lt_succ_of_lt hp)))
                   have HL6 := hide (HF.out.below.trans (B6.mono (Nat.le_succ _)))
                   clear O6 B6 P6 hr6 hb6 hs0)
                | (refine wpList_from rfl 38 5 (.tmp 32) _ rfl Try.underlying38 1 (by kernel_rfl) A q c' 25 .i64 (by rfl) (by rfl) hq25 hqc w.heap.size _ (HR6.out.setCell (Nat.le_refl _) _) ?_
                   intro A7 R7
                   have HR7 := hide R7
                   clear R7))
              go_roundw
              case measure => simp [lenOf]; omega
              case rel =>
                refine ⟨k + 1, q - 25, A7, c' - 25, _, by omega, by have := HQ.out; omega, rfl, by omega, ?_, HB6.out.set_ 1 _, ?_, HL6.out.setCell (Nat.le_refl _) _⟩
                · have := HR7.out
                  rw [← List.map_drop, List.drop_drop] at this
                  rw [show 3 + 25 * (k + 1) = 3 + 25 * k + 25 by omega]
                  simpa using this
                · rw [rdHs_snoc, List.flatMap_append, List.drop_drop, HX.out]
                  refine World.ownsRow.kept ?_ (only_setCell (World.grownBy.refl w6 (some w.heap.size)) (.inl rfl) _) (.inr (fun e => own_blk_ne HO6.out HB6.out (by decide) e))
                  simpa using HO6.out
        · obtain rfl : k = m := by omega
          obtain rfl : q = 0 := by have := HQ.out; omega
          clear hk hlt hqc hq5
          have hck := hO_hints HO.out (rdHs_all HB.out HBL.out)
          obtain ⟨AL, cL, rfl, hcL, hhL⟩ := hck
          have HHL := hide hhL
          clear hhL
          have hsz0 := HK.out.lt
          cases hcb : chkB sp (rdHs k (b.drop 3))
          all_goals
            have HCB := hide hcb
            clear hcb
            go_wp2_with (first
              | (refine wpList_load_at rfl 24 (.tmp 2) rfl ⟨w.heap.size, 0, none⟩ rfl [.int .i64 sp, .slice AL k cL] _ (blk_list HK.out) Try.underlying24 rfl (by kernel_rfl) ?_)
              | (go_at_call 10
                 refine (check_any sp AL k cL _ _ HHL.out hcL (by omega)).mono ?_
                 rintro e w7 ⟨rfl, hb7⟩
                 rw [HCB.out]
                 have HB7 := hide (HBe.out.trans (hb7.mono (Nat.le_of_lt hsz0)))
                 have HK7 := hide (HK.out.below hb7 hsz0)
                 have HO7 := hide (own_below HO.out hb7)
                 clear hb7
                 simp only [errC])
              | (refine wpList_load_at rfl 24 (.tmp 2) rfl ⟨w.heap.size, 0, none⟩ rfl [.int .i64 sp, .slice AL k cL] _ (blk_list HK7.out) Try.underlying24 rfl (by kernel_rfl) ?_)
              | (refine wpList_store_at rfl 24 (.tmp 2) (.tmp 70) rfl w.heap.size 0 24 [.int .i64 sp, .slice AL k cL] [.int .i64 0, .slice none 0 0] _ HK7.out (by rfl) (by rfl) rfl (by kernel_rfl) (by simp) (by intro u hu; simp at hu; rcases hu with rfl | rfl <;> rfl) ?_
                 intro w8 X8 G8 S8
                 have c80 : w8.cell? ⟨w.heap.size, 0, none⟩ = some (.int .i64 0) := X8.cell 0
                 have c81 : w8.cell? ⟨w.heap.size, 1, none⟩ = some (.slice none 0 0) := X8.cell 1
                 have HB8 := hide (HB7.out.grown G8 HB7.out.size (fun g e => by injection e with e; omega))
                 clear X8 G8 S8)
              | (refine wpList_store_at rfl 24 (.tmp 2) (.tmp 71) rfl w.heap.size 0 24 [.int .i64 sp, .slice AL k cL] [.int .i64 sp, .slice AL k cL] _ HK7.out (by rfl) (by rfl) rfl (by kernel_rfl) (by simp) (by intro u hu; simp at hu; rcases hu with rfl | rfl <;> rfl) ?_
                 intro w8 X8 G8 S8
                 have c80 : w8.cell? ⟨w.heap.size, 0, none⟩ = some (.int .i64 sp) := X8.cell 0
                 have c81 : w8.cell? ⟨w.heap.size, 1, none⟩ = some (.slice AL k cL) := X8.cell 1
                 have HB8 := hide (HB7.out.grown G8 HB7.out.size (fun g e => by injection e with e; omega))
                 have HG8 := hide G8
                 clear X8 G8 S8))
          · refine bodyPost_ret (v := .tuple #[.agg #[.int .i64 0, .slice none 0 0], .int .i64 30]) (by simp [results, Try.results19, go_sem, c80, c81]) rfl ⟨HB8.out, .inr ⟨?_, rfl⟩⟩
            unfold rdGood rdS rdL
            rw [HX2'.out, HSP.out, HCB.out, Bool.and_false]
          · refine bodyPost_ret (v := .tuple #[.agg #[.int .i64 sp, .slice AL k cL], .int .i64 0]) (by simp [results, Try.results19, go_sem, c80, c81]) rfl ⟨HB8.out, .inl ⟨?_, AL, k, cL, hcL, by omega, ?_, ?_⟩⟩
            · unfold rdGood rdS rdL rdOk
              rw [HX2'.out, HSP.out, HCB.out, Bool.and_true, Bool.and_eq_true, decide_eq_true_eq, beq_iff_eq, HL.out]
              refine ⟨h3n, ?_⟩
              rw [HN.out, List.getD_eq_getElem?_getD, HX2.out]
              rfl
            · unfold rdS
              rw [HSP.out]
            · have ho8 := HO7.out.kept HG8.out (.inr (fun e => own_blk_ne HO7.out HK7.out (by decide) e))
              obtain ⟨A9, c9, e9, _, h9⟩ := hO_hints ho8 (rdHs_all HB.out HBL.out)
              injection e9 with e9
              subst e9
              unfold rdL
              rw [HX2'.out]
              exact h9
    · have bn : ((n : Int) - 3 != 25 * x2) = true := by rw [bne_iff_ne]; exact hn
      have HN := hide hn
      clear hn
      go_enter Try.func19, Try.ntmps19
      go_wp2
      refine bodyPost_ret (v := .tuple #[.agg #[.int .i64 0, .slice none 0 0], .int .i64 30]) (by simp [results, Try.results19, go_sem]) rfl ⟨(Below.refl _ _).alloc (Nat.le_refl _) _, .inr ⟨?_, rfl⟩⟩
      unfold rdGood rdOk
      rw [HL.out, List.getD_eq_getElem?_getD, HX2.out, Option.getD_some]
      simp only [Bool.and_eq_false_iff]
      left; right
      exact beq_eq_false_iff_ne.2 HN.out
  · go_enter Try.func19, Try.ntmps19
    go_wp2
    refine bodyPost_ret (v := .tuple #[.agg #[.int .i64 0, .slice none 0 0], .int .i64 30]) (by simp [results, Try.results19, go_sem]) rfl ⟨(Below.refl _ _).alloc (Nat.le_refl _) _, .inr ⟨?_, rfl⟩⟩
    unfold rdGood rdOk
    rw [HL.out]
    simp [h3]
end Go.Proofs.Ytmnokkomhgpmmaa
