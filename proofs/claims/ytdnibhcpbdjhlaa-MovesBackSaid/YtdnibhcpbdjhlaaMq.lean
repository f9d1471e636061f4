/-
  moves.register, named, May: whether moves may be. Conditions: those written in each statement.
-/
import Derived.Test.YtdnibhcpbdjhlaaMp
import Derived.Deep.DeepCutAuto
import Derived.Deep.RegionWith
import Derived.Deep.RegionLaw
namespace Go.Proofs.Ytdnibhcpbdjhlaa
open Go.RowKit
set_option linter.unusedVariables false
set_option linter.unusedSimpArgs false
def regB (n : Int) : Bool := decide (0 ≤ n) && decide (n < 16)
theorem regB_iff {n : Int} : regB n = true ↔ 0 ≤ n ∧ n < 16 := by unfold regB; simp
theorem register_any (n : Int) (w : World) : Calls Try.prog 19 #[.int .i8 n] w fun e w' => e = .returned (.bool (regB n)) ∧ w = w' := by
  unfold regB
  cases h0 : decide (0 ≤ n)
  · go_enter Try.func19, Try.ntmps19
    go_wp2
    go_ret
    exact ⟨rfl, rfl⟩
  · cases h1 : decide (n < 16)
    all_goals
      go_enter Try.func19, Try.ntmps19
      go_wp2
      go_ret
      exact ⟨rfl, rfl⟩
theorem put_look (f : Int → Option Value) (x : Int) (v z : Value) : (putF f x v x).getD z = v := by
  unfold putF
  rw [if_pos rfl]
  rfl
/-- The k-th one goes to where none ahead of it goes, and both are registers. -/
def nmAt (l : List Mv) (k : Nat) : Bool := match l[k]? with
  | none => true
  | some x => !((l.take k).map (·.1)).contains x.1 && (regB x.1 && regB x.2)
def namedB (l : List Mv) : Bool := (List.range l.length).all (nmAt l)
theorem named_no {l : List Mv} {k : Nat} (hk : k < l.length) (h : nmAt l k = false) : namedB l = false := by
  unfold namedB
  rw [Bool.eq_false_iff]
  intro ht
  have := List.all_eq_true.1 ht k (List.mem_range.2 hk)
  rw [h] at this
  cases this
theorem named_yes {l : List Mv} (h : ∀ k, k < l.length → nmAt l k = true) : namedB l = true := List.all_eq_true.2 fun k hk => h k (List.mem_range.1 hk)
theorem named_iff {l : List Mv} : namedB l = true ↔ (l.map (·.1)).Nodup ∧ ∀ x ∈ l, regB x.1 = true ∧ regB x.2 = true := by
  have hat : ∀ k (hk : k < l.length), nmAt l k = true ↔ (l[k].1 ∉ (l.take k).map (·.1)) ∧ regB l[k].1 = true ∧ regB l[k].2 = true := by
    intro k hk
    unfold nmAt
    rw [List.getElem?_eq_getElem hk]
    simp only [Bool.and_eq_true, Bool.not_eq_true', List.contains_eq_mem, decide_eq_false_iff_not]
  constructor
  · intro h
    have hall : ∀ k (hk : k < l.length), nmAt l k = true := fun k hk => List.all_eq_true.1 h k (List.mem_range.2 hk)
    refine ⟨?_, fun x hx => ?_⟩
    · unfold List.Nodup
      rw [List.pairwise_iff_getElem]
      intro i j hi hj hij e
      rw [List.length_map] at hi hj
      have := ((hat j hj).1 (hall j hj)).1
      rw [List.getElem_map, List.getElem_map] at e
      refine this ?_
      rw [← e]
      have hlt : i < (l.take j).length := by rw [List.length_take]; omega
      exact List.mem_map.2 ⟨l[i], by rw [← List.getElem_take (j := j) (h := hlt)]; exact List.getElem_mem _, rfl⟩
    · obtain ⟨k, hk, rfl⟩ := List.getElem_of_mem hx
      exact ((hat k hk).1 (hall k hk)).2
  · rintro ⟨h1, h2⟩
    refine named_yes fun k hk => (hat k hk).2 ⟨fun hm => ?_, h2 _ (List.getElem_mem hk)⟩
    obtain ⟨y, hy, e⟩ := List.mem_map.1 hm
    obtain ⟨i, hi, rfl⟩ := List.getElem_of_mem hy
    rw [List.length_take] at hi
    rw [List.getElem_take] at e
    unfold List.Nodup at h1
    rw [List.pairwise_iff_getElem] at h1
    have := h1 i k (by rw [List.length_map]; omega) (by rw [List.length_map]; omega) (by omega)
    rw [List.getElem_map, List.getElem_map] at this
    exact this e
/-- May moves be? -/
def mayM (l : List Mv) (s : Int) : Bool := l.all (fun x => !(x.1 == s) && !(x.2 == s)) && (regB s && namedB l)
def NmP (b : Bool) (w : World) (e : Ending) (w' : World) : Prop := e = .returned (.bool b) ∧ Below w.heap.size w w'
def NmRel (l : List Mv) (w : World) (A : Option Addr) (n b : Nat) (i : Value) (wr : World) : Prop :=
  ∃ k : Nat, k ≤ n ∧ i = .int .i64 k ∧ (∀ j, j < k → nmAt l j = true) ∧ MapIs Try.prog 23 (Value.int .i8) I8 wr b k (cntF ((l.take k).map (·.1))) ∧ MvsAt wr w.heap.size A n l ∧ Below w.heap.size w wr ∧ w.heap.size ≤ b
theorem kept_map {w w1 w2 : World} {B b : Nat} (h : Below B w w1) (hg : w1.grownBy w2 (some b)) (hB : B ≤ w1.heap.size) (hb : B ≤ b) : Below B w w2 := h.grown hg hB (fun g e => by injection e with e; omega)
set_option maxRecDepth 100000 in
set_option maxHeartbeats 4000000 in
theorem named_any (A : Option Addr) (n c : Nat) (l : List Mv) (w : World) (hh : MvsAt w w.heap.size A n l) (hm : n < 9223372036854775807) :
    Calls Try.prog 21 #[.slice A n c] w (NmP (namedB l) w) := by
  have HL := hide hh.1
  have HH := hide hh
  clear hh
  obtain ⟨iM, hiM, hzM, hsM, hbM⟩ := info_parts infM
  have IM := hide (And.intro hiM (And.intro hzM (And.intro hsM hbM)))
  clear hiM hzM hsM hbM
  go_enter Try.func21, Try.ntmps21
  go_wp2_with (first
    | (refine wpList_makeMap (Value.int .i8) I8 23 rfl 42 rfl ?_
       intro w2 b2 G2 M2 L2
       have HM2 := hide M2
       have HL2 := hide L2
       clear M2 L2)
    | fail)
  go_loopw [9] (fun i wr => NmRel l w A n b2 i wr) (fun i _ => n - (intOf i).toNat)
  case atStart => exact ⟨0, by omega, rfl, by omega, HM2.out.congr (by intro q; simp [cntF]), HH.out.below HL2.out, HL2.out, G2⟩
  case round =>
    obtain ⟨k, hk, rfl, hno, hmap, hat, hbel, hb2⟩ := hrel
    have HN := hide hno
    have HM := hide hmap
    have HAT := hide hat
    have HB := hide hbel
    clear hno hmap hat hbel
    by_cases hlt : k < n
    · obtain ⟨ad, x, rfl, hab, hx, hxw, hcell⟩ := HAT.out.at_ hlt
      have HX := hide hx
      have HC := hide hcell
      have HW := hide hxw
      obtain ⟨cn, hcn⟩ : ∃ v, ((l.take k).map (·.1)).count x.1 = v := ⟨_, rfl⟩
      have hcb : cn ≤ k := by rw [← hcn]; exact Nat.le_trans List.count_le_length (by simp; omega)
      have HCN := hide hcn
      clear hx hcell hxw hcn
      obtain ⟨x0, x1⟩ := x
      have hlk := cnt_look ((l.take k).map (·.1)) x0
      have hlk2 : (cntF ((l.take k).map (·.1)) x0).getD (.int .i64 0) = .int .i64 (cn : Int) := by rw [hlk, HCN.out]
      have HLK := hide hlk2
      clear hlk hlk2
      have hltb := HM.out.lt
      have hszw := HB.out.size
      have hat1 : nmAt l k = (!decide (1 ≤ cn) && (regB x0 && regB x1)) := by
        unfold nmAt
        rw [HX.out]
        dsimp only
        congr 1
        rw [← HCN.out, List.contains_eq_mem]
        congr 1
        rw [decide_eq_decide]
        exact List.one_le_count_iff.symm
      have HAT1 := hide hat1
      obtain ⟨r0, hr0⟩ : ∃ v, regB x0 = v := ⟨_, rfl⟩
      obtain ⟨r1, hr1⟩ : ∃ v, regB x1 = v := ⟨_, rfl⟩
      rw [hr0, hr1] at HAT1
      have HR0 := hide hr0
      have HR1 := hide hr1
      clear hat1 hr0 hr1
      have hcs : (1 ≤ cn ∧ decide ((1 : Int) < (cn : Int) + 1) = true) ∨ (cn = 0 ∧ r0 = false) ∨ (cn = 0 ∧ r0 = true ∧ r1 = false) ∨ (cn = 0 ∧ r0 = true ∧ r1 = true) := by
        by_cases h : cn = 0
        · cases r0 <;> cases r1 <;> simp [h]
        · left; exact ⟨by omega, by simp; omega⟩
      go_upto_region 5 with (refine wpList_load_at rfl 32 (.tmp 11) rfl (ad.add (k * 2)) rfl [.int .i8 x0, .int .i8 x1] _ HC.out Try.underlying32 rfl (by kernel_rfl) ?_)
      have X3 := Blk.new wr 32 #[.int .i8 x0, .int .i8 x1]
      have L3 : Below wr.heap.size wr (wr.alloc (.cells #[.int .i8 x0, .int .i8 x1] 32)) := (Below.refl _ _).alloc (Nat.le_refl _) _
      generalize wr.alloc (.cells #[.int .i8 x0, .int .i8 x1] 32) = w3 at X3 L3 ⊢
      have c30 : w3.cell? ⟨wr.heap.size, 0, none⟩ = some (.int .i8 x0) := X3.cell 0
      have c31 : w3.cell? ⟨wr.heap.size, 1, none⟩ = some (.int .i8 x1) := X3.cell 1
      have HX3 := hide X3
      have HM3 := hide (HM.out.below L3 hltb)
      have HAT3 := hide (HAT.out.below (L3.mono hszw))
      have HB3 := hide (HB.out.trans (L3.mono hszw))
      have hsz3 := L3.size
      clear X3 L3
      go_upto_region 6 with (first
        | (at_lookup
           refine wpList_look1 rfl (.tmp 13) (.tmp 15) 42 rfl 3 i8K Try.underlying42 (.int .i64 0) (zeroI _) HM3.out x0 HW.out.1 (by rfl) (by rfl) _ HLK.out ?_)
        | (at_mapUpdate
           refine wpList_put rfl (.tmp 13) (.tmp 15) (.tmp 17) 42 rfl 3 i8K Try.underlying42 HM3.out (by unfold maxLen; omega) x0 HW.out.1 (.int .i64 ((cn : Int) + 1)) (by rfl) (by rfl) (by rfl) ?_
           intro w4 M4 L4
           have HM4 := hide M4
           have HX4 := hide (HX3.out.grown L4 (fun e => by injection e with e; omega))
           have c40 : w4.cell? ⟨wr.heap.size, 0, none⟩ = some (.int .i8 x0) := HX4.out.cell 0
           have c41 : w4.cell? ⟨wr.heap.size, 1, none⟩ = some (.int .i8 x1) := HX4.out.cell 1
           have HAT4 := hide (HAT3.out.grown L4 (by omega) (fun g e => by injection e with e; omega))
           have HB4 := hide (kept_map HB3.out L4 (by omega) hb2)
           clear M4 L4 c30 c31))
      rcases hcs with ⟨hcn1, hd⟩ | ⟨rfl, rfl⟩ | ⟨rfl, rfl, rfl⟩ | ⟨rfl, rfl, rfl⟩
      all_goals
        go_wp2_with (first
          | (at_lookup
             refine wpList_look1 rfl (.tmp 18) (.tmp 20) 42 rfl 3 i8K Try.underlying42 (.int .i64 0) (zeroI _) HM4.out x0 HW.out.1 (by rfl) (by rfl) _ (put_look _ _ _ _) ?_)
          | (go_at_call 19
             refine (register_any x0 _).mono ?_
             rintro e w' ⟨rfl, rfl⟩
             rw [HR0.out]
             have HR0' := hide trivial
             clear c40)
          | (go_at_call 19
             refine (register_any x1 _).mono ?_
             rintro e w' ⟨rfl, rfl⟩
             rw [HR1.out]))
      all_goals first
        | (go_ret
           exact ⟨ret_b (named_no (k := k) (by have := HL.out; omega) (by rw [HAT1.out]; first | rfl | (rw [decide_eq_true hcn1]; rfl))).symm, HB4.out⟩)
        | (go_roundw
           case measure => simp [intOf]; omega
           case rel =>
             refine ⟨k + 1, by omega, by go_num, fun j hj => ?_, HM4.out.congr ?_, HAT4.out, HB4.out, hb2⟩
             · rcases Nat.lt_or_ge j k with h | h
               · exact HN.out j h
               · obtain rfl : j = k := by omega
                 rw [HAT1.out]
                 rfl
             · intro y
               rw [List.take_add_one, HX.out, Option.toList_some, List.map_append]
               exact cnt_put _ _ _ (by rw [HCN.out]) y)
    · obtain rfl : k = n := by omega
      clear hk hlt
      go_wp2
      go_ret
      exact ⟨ret_b (named_yes (fun j hj => HN.out j (by have := HL.out; omega))).symm, HB.out⟩
end Go.Proofs.Ytdnibhcpbdjhlaa
