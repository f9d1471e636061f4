/-
  moves.Run: moves put in order. Conditions: those written in each statement.
-/
import Derived.Test.YtdnibhcpbdjhlaaMr
import Derived.Test.YtdnibhcpbdjhlaaMs
namespace Go.Proofs.Ytdnibhcpbdjhlaa
open Go.RowKit
set_option linter.unusedVariables false
set_option linter.unusedSimpArgs false
def nsB (x : Mv) : Bool := !(x.1 == x.2)
def runL (l : List Mv) : List Mv := l.filter nsB
def runO (l : List Mv) (s : Int) : List Mv := if 16 < l.length then [] else if mayM l s then runA s (runL l) else []
def runE (l : List Mv) (s : Int) : Int := if 16 < l.length then 3 else if mayM l s then 0 else 2
theorem ok_runL {l : List Mv} {s : Int} (h : mayM l s = true) : OkM s (runL l) := by
  obtain ⟨h1, _, h2⟩ := may_iff.1 h
  obtain ⟨h3, _⟩ := named_iff.1 h2
  have hsub : (runL l).Sublist l := List.filter_sublist
  refine ⟨(hsub.map _).nodup h3, fun q => ?_, fun x hx => ?_⟩
  · obtain ⟨x, hx, e⟩ := List.mem_map.1 q
    exact (h1 x (hsub.subset hx)).1 e
  · have := (List.mem_filter.1 hx).2
    unfold nsB at this
    simpa using this
theorem runL_take {l : List Mv} {k : Nat} {x : Mv} (h : l[k]? = some x) : runL (l.take (k + 1)) = runL (l.take k) ++ (if nsB x then [x] else []) := by
  unfold runL
  rw [List.take_add_one, h, Option.toList_some, List.filter_append]
  congr 1
  cases hn : nsB x <;> simp [hn]
theorem own_map_ne {w : World} {base : Nat} {e : TypeId} {size n : Nat} {v : Value} {xs : List Value} (h : w.ownsRow base e size v n xs) {κ : Type} {kt : TypeId} {enc : κ → Value} {V : κ → Prop} {b m : Nat} {f : κ → Option Value} (hm : MapIs Try.prog kt enc V w b m f) : v.ownBlock ≠ some b := by
  rcases h.2 with ⟨rfl, _⟩ | ⟨g', cap, cur, rfl, _, hh, _⟩
  · simp [Value.ownBlock]
  · intro he
    obtain rfl : g' = b := by simpa [Value.ownBlock] using he
    obtain ⟨es, cl, hb, _⟩ := hm
    rw [hh] at hb
    cases hb
def lenOf (v : Value) : Nat := match v with | .slice _ n _ => n | _ => 0
theorem own_sl {w : World} {base e size n : Nat} {v : Value} {xs : List Value} (h : w.ownsRow base e size v n xs) : ∃ A c, v = .slice A n c ∧ n ≤ c ∧ Reads w w.heap.size size A n xs := (RowL.of_own h).slice
theorem own_len {w : World} {base e size n : Nat} {v : Value} {xs : List Value} (h : w.ownsRow base e size v n xs) : lenOf v = n := by
  obtain ⟨A, c, rfl, _⟩ := own_sl h
  rfl
theorem runM_le (s : Int) : ∀ (n : Nat) (l : List Mv), (runM s n l).length ≤ n
  | 0, _ => by simp [runM]
  | n + 1, [] => by simp [runM]
  | n + 1, x :: t => by rw [runM, List.length_cons]; have := runM_le s n (stepM s (x :: t)).2; omega
theorem runA_le (s : Int) (l : List Mv) : (runA s l).length ≤ 2 * l.length + 1 := by
  have h1 := runM_le s (meas l) l
  have h2 : meas l ≤ 2 * l.length + 1 := by unfold meas; split <;> omega
  exact Nat.le_trans h1 h2
def RunP (l : List Mv) (s : Int) (w : World) (e : Ending) (w' : World) : Prop :=
  ∃ A c, e = .returned (.tuple #[.slice A (runO l s).length c, .int .i64 (runE l s)]) ∧ (runO l s).length ≤ c ∧ MvsAt w' w'.heap.size A (runO l s).length (runO l s) ∧ Below w.heap.size w w'
theorem run_bad {l : List Mv} {s er : Int} {w w' : World} (ho : runO l s = []) (he : runE l s = er) (hb : Below w.heap.size w w') : RunP l s w (.returned (.tuple #[.slice none 0 0, .int .i64 er])) w' := by
  unfold RunP
  rw [ho, he]
  exact ⟨none, 0, rfl, Nat.le_refl _, ⟨rfl, by simp, Reads.none_⟩, hb⟩
def R1 (l : List Mv) (w : World) (A : Option Addr) (n b : Nat) (sv i : Value) (wr : World) : Prop :=
  ∃ k : Nat, k ≤ n ∧ i = .int .i64 k ∧ wr.ownsRow w.heap.size 32 2 sv (runL (l.take k)).length ((runL (l.take k)).flatMap mvC) ∧ (∃ f, MapIs Try.prog 32 mvV mvW wr b k f) ∧ MvsAt wr w.heap.size A n l ∧ Below w.heap.size w wr ∧ w.heap.size ≤ b
theorem put_look2 (f : Mv → Option Value) (x : Mv) (v z : Value) : (putF f x v x).getD z = v := by
  unfold putF
  rw [if_pos rfl]
  rfl
theorem runL_len (l : List Mv) (k : Nat) : (runL (l.take k)).length ≤ k := Nat.le_trans (List.length_filter_le _ _) (by simp; omega)
/-- What the second loop holds: what is put, what is left. -/
structure R2 (l : List Mv) (s : Int) (w : World) (ov lv : Value) (L O : List Mv) (W : World) : Prop where
  sum : O ++ runA s L = runA s (runL l)
  ok : OkM s L
  few : L.length ≤ 16
  wl : ∀ x ∈ L, mvW x
  wo : ∀ x ∈ O, mvW x
  out : W.ownsRow w.heap.size 32 2 ov O.length (O.flatMap mvC)
  left : RowL W w.heap.size 32 2 lv L.length (L.flatMap mvC)
  apart : ∀ g, lv.ownBlock = some g → ov.ownBlock ≠ some g
  below : Below w.heap.size w W
def R2Rel (l : List Mv) (s : Int) (w : World) (ov lv : Value) (wr : World) : Prop := ∃ L O, R2 l s w ov lv L O wr
theorem flat_len (l : List Mv) : (l.flatMap mvC).length = l.length * 2 := by
  induction l with
  | nil => rfl
  | cons x t ih => rw [List.flatMap_cons, List.length_append, ih, List.length_cons]; simp [mvC]; omega
theorem flat_erase : ∀ (L : List Mv) (k : Nat), k < L.length → (L.eraseIdx k).flatMap mvC = (L.flatMap mvC).take (k * 2) ++ (L.flatMap mvC).drop ((k + 1) * 2)
  | [], k, h => by simp at h
  | x :: t, 0, h => by simp [mvC]
  | x :: t, k + 1, h => by
    rw [List.eraseIdx_cons_succ, List.flatMap_cons, flat_erase t k (by simpa using h), List.flatMap_cons]
    rw [show (k + 1) * 2 = k * 2 + 1 + 1 by omega, show (k + 1 + 1) * 2 = (k + 1) * 2 + 1 + 1 by omega]
    simp [mvC]
    rw [show (k + 1) * 2 = k * 2 + 2 by omega]
def brkTo (s f : Int) (j : Nat) (L : List Mv) : List Mv := (L.take j).map (fun x => if x.2 = f then (x.1, s) else x) ++ L.drop j
theorem brkTo_at {s f : Int} {j : Nat} {L : List Mv} {y : Mv} (hy : L[j]? = some y) : (brkTo s f j L)[j]? = some y := by
  have hl := (List.getElem?_eq_some_iff.1 hy).1
  unfold brkTo
  rw [List.getElem?_append_right (by simp; omega), List.length_map, List.length_take, Nat.min_eq_left (by omega), Nat.sub_self, List.getElem?_drop, Nat.add_zero]
  exact hy
theorem brkTo_form {s f : Int} {j : Nat} {L : List Mv} {y : Mv} (hy : L[j]? = some y) : brkTo s f j L = (L.take j).map (fun x => if x.2 = f then (x.1, s) else x) ++ y :: L.drop (j + 1) := by
  obtain ⟨hl, he⟩ := List.getElem?_eq_some_iff.1 hy
  unfold brkTo
  rw [List.drop_eq_getElem_cons hl, he]
theorem brkTo_next {s f : Int} {j : Nat} {L : List Mv} {y : Mv} (hy : L[j]? = some y) : brkTo s f (j + 1) L = (L.take j).map (fun x => if x.2 = f then (x.1, s) else x) ++ (if y.2 = f then (y.1, s) else y) :: L.drop (j + 1) := by
  unfold brkTo
  rw [List.take_add_one, hy, Option.toList_some, List.map_append]
  simp
theorem brkTo_skip {s f : Int} {j : Nat} {L : List Mv} {y0 y1 : Int} (hy : L[j]? = some (y0, y1)) (h : y1 ≠ f) : brkTo s f (j + 1) L = brkTo s f j L := by
  rw [brkTo_next hy, brkTo_form hy, if_neg h]
theorem brkTo_put {s f : Int} {j : Nat} {L : List Mv} {y0 y1 : Int} (hy : L[j]? = some (y0, y1)) (h : y1 = f) : ((brkTo s f j L).flatMap mvC).set (j * 2 + 1) (.int .i8 s) = (brkTo s f (j + 1) L).flatMap mvC := by
  have hl := (List.getElem?_eq_some_iff.1 hy).1
  rw [brkTo_next hy, brkTo_form hy, if_pos h, List.flatMap_append, List.flatMap_append, List.flatMap_cons, List.flatMap_cons]
  have hlen : (((L.take j).map (fun x => if x.2 = f then (x.1, s) else x)).flatMap mvC).length = j * 2 := by rw [flat_len, List.length_map, List.length_take, Nat.min_eq_left (by omega)]
  rw [List.set_append_right _ _ (by omega), hlen, show j * 2 + 1 - j * 2 = 1 by omega]
  rfl
def R3Rel (L : List Mv) (s f : Int) (g m cL no : Nat) (O : List Mv) (v6 : Value) (w : World) (i : Value) (wq : World) : Prop :=
  ∃ j : Nat, j ≤ m ∧ i = .int .i64 j ∧ RowL wq w.heap.size 32 2 (.slice (some ⟨g, 0, none⟩) m cL) m ((brkTo s f j L).flatMap mvC) ∧ wq.ownsRow w.heap.size 32 2 v6 (no + 1) (O.flatMap mvC ++ [.int .i8 s, .int .i8 f]) ∧ Below w.heap.size w wq
theorem R2.mvs {l : List Mv} {s : Int} {w : World} {ov lv : Value} {L O : List Mv} {W : World} (h : R2 l s w ov lv L O W) : ∃ A c, lv = .slice A L.length c ∧ L.length ≤ c ∧ MvsAt W W.heap.size A L.length L := by
  obtain ⟨A, c, e, hc, hr⟩ := h.left.slice
  exact ⟨A, c, e, hc, rfl, h.wl, hr⟩
theorem R2.less {l : List Mv} {s : Int} {w : World} {ov lv : Value} {L O : List Mv} {W : World} (h : R2 l s w ov lv L O W) (hL : L ≠ []) : O.length < (runA s (runL l)).length := by
  rw [← h.sum, List.length_append, run_step h.ok hL]
  simp
theorem R2.step {l : List Mv} {s : Int} {w : World} {ov lv : Value} {L O : List Mv} {W V : World} (h : R2 l s w ov lv L O W) (hb : Below W.heap.size W V) : R2 l s w ov lv L O V :=
  ⟨h.sum, h.ok, h.few, h.wl, h.wo, h.out.kept (only_of_below hb none) (by cases ov.ownBlock <;> simp), h.left.below hb, h.apart, h.below.trans (hb.mono h.below.size)⟩
/-- A move that is free has been put: what is left then. -/
theorem R2.put {l : List Mv} {s : Int} {w : World} {ov lv ov' lv' : Value} {L O : List Mv} {W V : World} (h : R2 l s w ov lv L O W) (hL : L ≠ []) (hx : mvW (stepM s L).1)
    (hwl : ∀ x ∈ (stepM s L).2, mvW x) (hf : (stepM s L).2.length ≤ 16)
    (hout : V.ownsRow w.heap.size 32 2 ov' (O.length + 1) (O.flatMap mvC ++ mvC (stepM s L).1)) (hleft : RowL V w.heap.size 32 2 lv' (stepM s L).2.length ((stepM s L).2.flatMap mvC))
    (hap : ∀ g, lv'.ownBlock = some g → ov'.ownBlock ≠ some g) (hb : Below w.heap.size w V) : R2 l s w ov' lv' (stepM s L).2 (O ++ [(stepM s L).1]) V := by
  refine ⟨?_, step_ok h.ok hL, hf, hwl, ?_, ?_, hleft, hap, hb⟩
  · rw [List.append_assoc, List.singleton_append, ← run_step h.ok hL, h.sum]
  · intro x hxm
    rcases List.mem_append.1 hxm with q | q
    · exact h.wo x q
    · simp at q
      subst q
      exact hx
  · rw [List.length_append, List.flatMap_append]
    simpa using hout
set_option maxRecDepth 100000 in
set_option maxHeartbeats 8000000 in
theorem run_any (A : Option Addr) (n c : Nat) (l : List Mv) (s : Int) (w : World) (hh : MvsAt w w.heap.size A n l) (hs : I8 s) (hm : n < 9223372036854775807) :
    Calls Try.prog 9 #[.slice A n c, .int .i8 s] w (RunP l s w) := by
  have HL := hide hh.1
  have HH := hide hh
  have HS := hide hs
  clear hh hs
  by_cases h16 : 16 < n
  · have hd : decide ((16 : Int) < (n : Int)) = true := by simp; omega
    have HO := hide (show runO l s = [] by unfold runO; rw [HL.out, if_pos h16])
    have HE := hide (show runE l s = 3 by unfold runE; rw [HL.out, if_pos h16])
    clear h16
    go_enter Try.func9, Try.ntmps9
    go_wp2
    go_ret2
    exact run_bad HO.out HE.out (Below.refl _ _)
  · have hd : decide ((16 : Int) < (n : Int)) = false := by simp; omega
    have hn16 : n ≤ 16 := by omega
    have HNO := hide (show ¬ 16 < l.length by rw [HL.out]; exact h16)
    clear h16
    cases hmy : mayM l s
    · have HO := hide (show runO l s = [] by unfold runO; rw [if_neg HNO.out, hmy]; rfl)
      have HE := hide (show runE l s = 2 by unfold runE; rw [if_neg HNO.out, hmy]; rfl)
      go_enter Try.func9, Try.ntmps9
      go_wp2_with fail
      refine (may_any A n c l s _ HH.out hm).mono ?_
      rintro e w1 ⟨rfl, hb⟩
      rw [hmy]
      have HB := hide hb
      clear hb hmy
      go_wp2
      go_ret2
      exact run_bad HO.out HE.out HB.out
    · have HO := hide (show runO l s = runA s (runL l) by unfold runO; rw [if_neg HNO.out, hmy]; rfl)
      have HE := hide (show runE l s = 0 by unfold runE; rw [if_neg HNO.out, hmy]; rfl)
      have HOK := hide (ok_runL hmy)
      obtain ⟨iM, hiM, hzM, hsM, hbM⟩ := info_parts infM
      have IM := hide (And.intro hiM (And.intro hzM (And.intro hsM hbM)))
      clear hiM hzM hsM hbM
      go_enter Try.func9, Try.ntmps9
      go_wp2_with fail
      refine (may_any A n c l s _ HH.out hm).mono ?_
      rintro e w1 ⟨rfl, hb⟩
      rw [hmy]
      have HB1 := hide hb
      have HH1 := hide (HH.out.below hb)
      clear hb hmy
      go_wp2_with (first
        | (refine wpList_makeMap mvV mvW 32 rfl 37 rfl ?_
           intro w2 b2 G2 M2 L2
           have HM2 := hide M2
           have HL2 := hide (HB1.out.trans (L2.mono HB1.out.size))
           have HH2 := hide (HH1.out.below (L2.mono HB1.out.size))
           have hb2 : w.heap.size ≤ b2 := by have := HB1.out.size; omega
           clear M2 L2)
        | fail)
      go_loopw [6, 26] (fun sv i wr => R1 l w A n b2 sv i wr) (fun _ i _ => n - (intOf i).toNat)
      case atStart => exact ⟨0, by omega, rfl, ⟨rfl, .inl ⟨rfl, rfl⟩⟩, ⟨_, HM2.out⟩, HH2.out, HL2.out, hb2⟩
      case round =>
        obtain ⟨k, hk, rfl, hown, ⟨f, hmap⟩, hat, hbel, _⟩ := hrel
        have HOW := hide hown
        have HM := hide hmap
        have HAT := hide hat
        have HB := hide hbel
        clear hown hmap hat hbel
        by_cases hlt : k < n
        · obtain ⟨ad, x, rfl, hab, hx, hxw, hcell⟩ := HAT.out.at_ hlt
          have HX := hide hx
          have HC := hide hcell
          have HW := hide hxw
          have hlk := runL_len l k
          have hltb := HM.out.lt
          have hszw := HB.out.size
          have HRT := hide (runL_take hx)
          clear hx hcell hxw
          obtain ⟨x0, x1⟩ := x
          obtain ⟨nk, hnk⟩ : ∃ v, (runL (l.take k)).length = v := ⟨_, rfl⟩
          rw [hnk] at hlk HOW
          have HNK := hide hnk
          clear hnk
          go_upto_region 10 with (refine wpList_load_at rfl 32 (.tmp 28) rfl (ad.add (k * 2)) rfl [.int .i8 x0, .int .i8 x1] _ HC.out Try.underlying32 rfl (by kernel_rfl) ?_)
          have X3 := Blk.new wr 32 #[.int .i8 x0, .int .i8 x1]
          have L3 : Below wr.heap.size wr (wr.alloc (.cells #[.int .i8 x0, .int .i8 x1] 32)) := (Below.refl _ _).alloc (Nat.le_refl _) _
          generalize wr.alloc (.cells #[.int .i8 x0, .int .i8 x1] 32) = w3 at X3 L3 ⊢
          have c30 : w3.cell? ⟨wr.heap.size, 0, none⟩ = some (.int .i8 x0) := X3.cell 0
          have c31 : w3.cell? ⟨wr.heap.size, 1, none⟩ = some (.int .i8 x1) := X3.cell 1
          have HX3 := hide X3
          have HM3 := hide (HM.out.below L3 hltb)
          have HAT3 := hide (HAT.out.below (L3.mono hszw))
          have HB3 := hide (HB.out.trans (L3.mono hszw))
          have HO3 := hide (HOW.out.kept (only_of_below L3 none) (by cases u6.ownBlock <;> simp))
          have hsz3 := L3.size
          clear X3 L3
          have hL3 := hide (blk_list (l := [.int .i8 x0, .int .i8 x1]) HX3.out)
          go_upto_region 11 with (first
            | (refine wpList_load_at rfl 32 (.tmp 9) rfl ⟨wr.heap.size, 0, none⟩ rfl [.int .i8 x0, .int .i8 x1] _ hL3.out Try.underlying32 rfl (by kernel_rfl) ?_)
            | (at_mapUpdate
               refine wpList_put rfl (.tmp 30) (.tmp 31) (.tmp 36) 37 rfl 4 mvK Try.underlying37 HM3.out (by unfold maxLen; omega) (x0, x1) HW.out (.bool (x0 == x1)) (by rfl) (by rfl) (by rfl) ?_
               intro w4 M4 L4
               have HM4 := hide M4
               have HX4 := hide (HX3.out.grown L4 (fun e => by injection e with e; omega))
               have HAT4 := hide (HAT3.out.grown L4 (by omega) (fun g e => by injection e with e; omega))
               have HB4 := hide (kept_map HB3.out L4 (by omega) hb2)
               have HO4 := hide (HO3.out.kept L4 (.inr (own_map_ne HO3.out HM3.out)))
               clear M4 L4 c30 c31))
          have hL4 := hide (blk_list (l := [.int .i8 x0, .int .i8 x1]) HX4.out)
          cases hns : (x0 == x1)
          · have HNS := hide (show nsB (x0, x1) = true by unfold nsB; dsimp only; rw [hns]; rfl)
            have hsz4 := HB4.out.size
            go_wp2_with (first
              | (refine wpList_load_at rfl 32 (.tmp 9) rfl ⟨wr.heap.size, 0, none⟩ rfl [.int .i8 x0, .int .i8 x1] _ hL4.out Try.underlying32 rfl (by kernel_rfl) ?_)
              | (at_lookup
                 refine wpList_look1 rfl (.tmp 37) (.tmp 38) 37 rfl 4 mvK Try.underlying37 (.bool false) (zeroB _) HM4.out (x0, x1) HW.out (by rfl) (by rfl) (.bool (x0 == x1)) (put_look2 _ _ _ _) ?_)
              | (refine wpList_push rfl rfl 22 32 (.tmp 42) (.tmp 41) (.tmp 43) rfl rfl w.heap.size 2 2 iM _ (.agg #[.int .i8 x0, .int .i8 x1]) u6 [.int .i8 x0, .int .i8 x1] _ nk Try.underlying22 IM.out.1 IM.out.2.1 IM.out.2.2.1 IM.out.2.2.2 rfl (by omega) (by omega) (by rfl) rfl rfl (mvC_one (x0, x1)) HO4.out hsz4 (by unfold maxLen; omega) (by omega) (by rfl) (by rfl) ?_
                 intro v7 w7 g7 G7 O7 B7 P7
                 have HO7 := hide O7
                 have HAT7 := hide (HAT4.out.below B7)
                 have HB7 := hide (HB4.out.trans B7)
                 have HM7 := hide (HM4.out.grown P7 (fun e => own_map_ne HO4.out HM4.out e.symm))
                 clear O7 B7 P7))
            go_roundw
            case measure => simp [intOf]; omega
            case rel =>
              refine ⟨k + 1, by omega, by go_num, ?_, ⟨_, HM7.out⟩, HAT7.out, HB7.out, hb2⟩
              rw [HRT.out, HNS.out, if_pos rfl, List.length_append, HNK.out, List.flatMap_append]
              have h7 := HO7.out
              rw [show [Value.int .i8 x0, .int .i8 x1] = mvC (x0, x1) from rfl] at h7
              simpa using h7
          · have HNS := hide (show nsB (x0, x1) = false by unfold nsB; dsimp only; rw [hns]; rfl)
            go_wp2_with (first
              | (refine wpList_load_at rfl 32 (.tmp 9) rfl ⟨wr.heap.size, 0, none⟩ rfl [.int .i8 x0, .int .i8 x1] _ hL4.out Try.underlying32 rfl (by kernel_rfl) ?_)
              | (at_lookup
                 refine wpList_look1 rfl (.tmp 37) (.tmp 38) 37 rfl 4 mvK Try.underlying37 (.bool false) (zeroB _) HM4.out (x0, x1) HW.out (by rfl) (by rfl) (.bool (x0 == x1)) (put_look2 _ _ _ _) ?_))
            go_roundw
            case measure => simp [intOf]; omega
            case rel =>
              refine ⟨k + 1, by omega, by go_num, ?_, ⟨_, HM4.out⟩, HAT4.out, HB4.out, hb2⟩
              rw [HRT.out, HNS.out, if_neg (by simp), List.append_nil, HNK.out]
              exact HO4.out
        · obtain rfl : k = n := by omega
          have hwl : ∀ x ∈ runL l, mvW x := fun x hx => HH.out.2.1 x (List.mem_filter.1 hx).1
          have HWL := hide hwl
          have hown := HOW.out
          rw [List.take_of_length_le (by have := HL.out; omega)] at hown
          have HOWN := hide hown
          clear hk hlt hwl hown HOW HM
          go_wp2
          go_loopw [4, 6] (fun ov lv wq => R2Rel l s w ov lv wq) (fun ov _ _ => (runA s (runL l)).length - lenOf ov)
          case atStart =>
            exact ⟨runL l, [], rfl, HOK.out, Nat.le_trans (List.length_filter_le _ _) (by rw [HL.out]; exact hn16), HWL.out, by simp, ⟨rfl, .inl ⟨rfl, rfl⟩⟩, RowL.of_own HOWN.out, fun g _ => by simp [Value.ownBlock], HB.out⟩
          case round =>
            obtain ⟨L, O, h2⟩ := hrel
            have H2 := hide h2
            clear h2
            obtain ⟨AL, cL, rfl, hcL, hat⟩ := H2.out.mvs
            have HAT := hide hat
            obtain ⟨m, hm⟩ : ∃ v, L.length = v := ⟨_, rfl⟩
            rw [hm] at hcL HAT H2 ⊢
            have HM := hide hm
            have hm16 : m ≤ 16 := by rw [← hm]; exact H2.out.few
            have hRA : (runA s (runL l)).length ≤ 33 := by
              have := runA_le s (runL l)
              have : (runL l).length ≤ 16 := Nat.le_trans (List.length_filter_le _ _) (by rw [HL.out]; exact hn16)
              omega
            clear hat hm
            by_cases hm0 : m = 0
            · subst hm0
              obtain ⟨AO, cO, rfl, hcO, hrO⟩ := own_sl H2.out.out
              have hLnil : L = [] := List.eq_nil_of_length_eq_zero HM.out
              have hO : runO l s = O := by
                rw [HO.out, ← H2.out.sum, hLnil, run_nil, List.append_nil]
              have HOO := hide hO
              have HRO := hide hrO
              clear hO hrO hLnil
              go_wp2
              go_ret2
              unfold RunP
              rw [HOO.out, HE.out]
              exact ⟨AO, cO, rfl, hcO, ⟨rfl, H2.out.wo, HRO.out⟩, H2.out.below⟩
            · have hpos : (0 : Int) < (m : Int) := by omega
              have hLne : L ≠ [] := fun e => by rw [e] at HM; exact hm0 HM.out.symm
              have HLN := hide hLne
              have hOl := H2.out.less hLne
              obtain ⟨no, hno⟩ : ∃ v, O.length = v := ⟨_, rfl⟩
              rw [hno] at hOl
              have HNO2 := hide hno
              clear hLne hno
              go_wp2_with fail
              refine (ready_any AL m cL L _ HAT.out (by omega)).mono ?_
              rintro e w5 ⟨rfl, hb⟩
              have hszw := H2.out.below.size
              have H5 := hide (H2.out.step hb)
              clear hb
              cases hfr : freeP L with
              | some k =>
                rw [show rdyI L = k by unfold rdyI; rw [hfr], show rdyB L = true by unfold rdyB; rw [hfr]; rfl]
                obtain ⟨a, x, bb, hsp, her, hgd, hxk, hkl, hfree⟩ := free_split hfr
                rw [HM.out] at hkl
                have HSP := hide (step_free (s := s) hfr her hgd)
                obtain ⟨ad, x', rfl, hab, hxk', hxw, hcell⟩ := (show MvsAt w5 w5.heap.size AL m L by
                  obtain ⟨A', c', e', _, h'⟩ := H5.out.mvs
                  injection e' with e1 e2
                  subst e1
                  rw [HM.out] at h'
                  exact h').at_ hkl
                obtain rfl : x' = x := by rw [hxk] at hxk'; exact (Option.some.inj hxk').symm
                have HC := hide hcell
                have HXW := hide hxw
                have HL' := hide (And.intro hsp her)
                have hno33 : no + 1 ≤ 34 := by omega
                clear hcell hxw hxk hxk' hgd hsp her
                obtain ⟨x0, x1⟩ := x'
                have hout5 := H5.out.out
                rw [HNO2.out] at hout5
                have HO5 := hide hout5
                have hsz5 := H5.out.below.size
                clear hout5
                have hapl : ∀ g, (Value.slice (some ad) m cL).ownBlock = some g → u4.ownBlock ≠ some g := H5.out.apart
                have HAP := hide hapl
                clear hapl
                go_upto_region 26 with (first
                  | (refine wpList_load_at rfl 32 (.tmp 87) rfl (ad.add (k * 2)) (by rfl) [.int .i8 x0, .int .i8 x1] _ HC.out Try.underlying32 rfl (by kernel_rfl) ?_)
                  | (refine wpList_push_at rfl rfl 22 32 (.tmp 88) (.tmp 84) (.tmp 89) rfl rfl w.heap.size 2 2 iM _ (.agg #[.int .i8 x0, .int .i8 x1]) u4 [.int .i8 x0, .int .i8 x1] _ no Try.underlying22 IM.out.1 IM.out.2.1 IM.out.2.2.1 IM.out.2.2.2 rfl (by omega) (by omega) (by rfl) rfl rfl (mvC_one (x0, x1)) HO5.out hsz5 (by unfold maxLen; omega) (by omega) (by rfl) (by rfl) ?_
                     intro v6 w6 g6 G6 O6 B6 P6 Q6
                     have HO6 := hide O6
                     have HB6 := hide (H5.out.below.trans B6)
                     have HLF6 := hide (H5.out.left.grown P6 (by
                       rcases h : (Value.slice (some ad) m cL).ownBlock with _ | g
                       · exact .inl rfl
                       · exact .inr (fun e => HAP.out g h e.symm)))
                     have HQ6 := hide Q6
                     clear O6 B6 P6 Q6))
                have hmk : k + 1 ≤ m := hkl
                have hf6 := HLF6.out
                rw [HM.out] at hf6
                obtain ⟨g, cap, e1, hmc, hgw, hgl⟩ := hf6.form (by omega)
                injection e1 with e1 _ e2
                injection e1 with e1
                subst e1 e2
                have HF6 := hide hf6
                have HC6 := hide (hf6.cut (k := k) (by omega))
                have hwr : IntKind.i64.wrap ((k : Int) + 1) = (k : Int) + 1 := IntWalk.i64_in _ (by omega)
                have hi0 : (0 : Int) ≤ (k : Int) := by omega
                have hi1 : (k : Int) ≤ (cL : Int) := by omega
                have hi2 : (k : Int) + 1 ≤ (m : Int) := by omega
                have hi3 : (0 : Int) ≤ (k : Int) + 1 := by omega
                have ht1 : ((k : Int) + 1).toNat = k + 1 := by omega
                clear hf6
                go_still_tail 8, (by kernel_rfl)
                change wpList _ _ _ _ _ w6.drew
                have hlen2 : (L.flatMap mvC).length = m * 2 := by rw [flat_len, HM.out]
                have HLEN2 := hide hlen2
                have hnl : ((L.flatMap mvC).drop ((k + 1) * 2)).length = (m - (k + 1)) * 2 := by rw [List.length_drop, HLEN2.out]; omega
                have HNL := hide hnl
                have hone : ∀ u ∈ (L.flatMap mvC).drop ((k + 1) * 2), u.oneCell' = true := fun u hu => by
                  obtain ⟨y, _, hy⟩ := List.mem_flatMap.1 (List.mem_of_mem_drop hu)
                  exact mvC_one y u hy
                have HONE := hide hone
                have hsz6 := HB6.out.size
                clear hlen2 hnl hone
                have hck : ∃ ad2, (if cL = k + 1 then some (⟨g, 0, none⟩ : Addr) else some ⟨g, (k + 1) * 2, none⟩) = some ad2 ∧ ∀ j u, ((L.flatMap mvC).drop ((k + 1) * 2))[j]? = some u → w6.cell? (ad2.add j) = some u := by
                  by_cases h : cL = k + 1
                  · refine ⟨_, if_pos h, fun j u hu => ?_⟩
                    have := (List.getElem?_eq_some_iff.1 hu).1
                    rw [HNL.out] at this
                    omega
                  · refine ⟨_, if_neg h, fun j u hu => ?_⟩
                    have hj := (List.getElem?_eq_some_iff.1 hu).1
                    rw [HNL.out] at hj
                    rw [show (⟨g, (k + 1) * 2, none⟩ : Addr).add j = ⟨g, (k + 1) * 2 + j, none⟩ from by unfold Addr.add; split <;> simp_all, HF6.out.cell _ (by omega)]
                    rw [List.getElem?_drop] at hu
                    exact hu
                obtain ⟨ad2, hadd, hcells⟩ := hck
                have HCE := hide hcells
                have HADD := hide hadd
                clear hcells hadd
                refine wpList_append_row rfl (.tmp 94) (.tmp 98) 22 rfl w.heap.size 32 iM _ 2 2 Try.underlying22 IM.out.1 IM.out.2.1 IM.out.2.2.1 IM.out.2.2.2 (by rfl) (by omega) g k _ ?hs HC6.out.drew ad2 (m - (k + 1)) (cL - (k + 1)) _ ?hx HNL.out HCE.out HONE.out (by unfold maxLen; omega) (by omega) hsz6 ?_
                case hs => simp [Act.eval, Array.getD]
                case hx => rw [← HADD.out]; by_cases h : cL = k + 1 <;> simp [Act.eval, Array.getD, h]
                intro v8 w8 hleft hgr hq
                have hgr6 : w6.grownBy w8 none := ⟨hgr.os, hgr.tape, hgr.output, hgr.size, hgr.block⟩
                have HLF8 := hide hleft
                have HO8 := hide (HO6.out.kept hgr6 (by cases v6.ownBlock <;> simp))
                have HB8 := hide (HB6.out.grown hgr6 hsz6 (fun g e => by cases e))
                have HQ8 := hide hq
                clear hleft hgr hgr6 hq
                go_wp2
                go_roundw
                case measure =>
                  have q1 := own_len HO5.out
                  have q2 := own_len HO8.out
                  rw [q1, q2]
                  omega
                case rel =>
                  have hst := HSP.out
                  refine ⟨_, _, H2.out.put HLN.out (by rw [hst]; exact HXW.out) (by rw [hst]; intro y hy; exact H2.out.wl y (by rw [HL'.out.1]; rcases List.mem_append.1 hy with q | q; exact List.mem_append.2 (.inl q); exact List.mem_append.2 (.inr (List.mem_cons_of_mem _ q))))
                    (by rw [hst, ← HL'.out.2, List.length_eraseIdx]; split <;> (have := HM.out; omega)) ?_ ?_ ?_ HB8.out⟩
                  · rw [hst, HNO2.out]
                    exact HO8.out
                  · rw [hst, ← HL'.out.2, flat_erase _ _ (by rw [HM.out]; exact hkl), List.length_eraseIdx, if_pos (by rw [HM.out]; exact hkl), HM.out, show m - 1 = k + (m - (k + 1)) by omega]
                    exact HLF8.out
                  · intro q hqv
                    have h6 := (RowL.of_own HO6.out).ge
                    have hg5 := (H5.out.left.ge g rfl).2
                    rcases HQ8.out with e | e | ⟨q', e, hq'⟩
                    · rw [e] at hqv
                      injection hqv with hqv
                      subst hqv
                      rcases HQ6.out with e6 | ⟨q6, e6, hq6⟩
                      · rw [e6]; exact HAP.out g rfl
                      · rw [e6]; intro e7; injection e7 with e7; omega
                    · rw [e] at hqv
                      injection hqv with hqv
                      intro e7
                      have := (h6 _ e7).2
                      have hd : w6.drew.heap.size = w6.heap.size := rfl
                      omega
                    · rw [e] at hqv
                      injection hqv with hqv
                      intro e7
                      have := (h6 _ e7).2
                      have hd : w6.drew.heap.size = w6.heap.size := rfl
                      omega
              | none =>
                rw [show rdyI L = 0 by unfold rdyI; rw [hfr], show rdyB L = false by unfold rdyB; rw [hfr]; rfl]
                have hL5 := H5.out.left
                rw [HM.out] at hL5
                obtain ⟨g, cap, e1, hmc, hgw, hgl⟩ := hL5.form (by omega)
                injection e1 with e1 _ e2
                subst e1 e2
                obtain ⟨x, t, hLx⟩ : ∃ x t, L = x :: t := by
                  cases L with
                  | nil => exact absurd rfl HLN.out
                  | cons x t => exact ⟨x, t, rfl⟩
                obtain ⟨x0, f⟩ := x
                have hst : stepM s L = ((s, f), brk s f L) := by unfold stepM; rw [hfr, hLx]; rfl
                have HST := hide hst
                have hfw : I8 f := (H5.out.wl (x0, f) (by rw [hLx]; simp)).2
                have HFW := hide hfw
                have c01 : w5.cell? ⟨g, 1, none⟩ = some (.int .i8 f) := by
                  rw [hL5.cell 1 (by omega), hLx]
                  rfl
                have hout5 := H5.out.out
                rw [HNO2.out] at hout5
                have HO5 := hide hout5
                have HL5 := hide hL5
                have hsz5 := H5.out.below.size
                have hap : u4.ownBlock ≠ some g := H5.out.apart g rfl
                have HAP := hide hap
                clear hst hLx hfr hout5 hL5 hfw hap
                go_wp2_with (first
                  | (refine wpList_push_at rfl rfl 22 32 (.tmp 63) (.tmp 60) (.tmp 64) rfl rfl w.heap.size 2 2 iM _ (.agg #[.int .i8 s, .int .i8 f]) u4 [.int .i8 s, .int .i8 f] _ no Try.underlying22 IM.out.1 IM.out.2.1 IM.out.2.2.1 IM.out.2.2.2 rfl (by omega) (by omega) (by rfl) rfl rfl (mvC_one (s, f)) HO5.out hsz5 (by unfold maxLen; omega) (by omega) (by rfl) (by rfl) ?_
                     intro v6 w6 g6 G6 O6 B6 P6 Q6
                     have HO6 := hide O6
                     have HB6 := hide (H5.out.below.trans B6)
                     have HL6 := hide (HL5.out.grown P6 (.inr (fun e => HAP.out e.symm)))
                     have HQ6 := hide Q6
                     clear O6 B6 P6 Q6 c01))
                obtain ⟨wo, rfl⟩ : ∃ wo : World, wo = w6 := ⟨_, rfl⟩
                have hv6 : v6.ownBlock ≠ some g := by
                  rcases HQ6.out with e6 | ⟨q6, e6, hq6⟩
                  · rw [e6]; exact HAP.out
                  · rw [e6]; intro e7; injection e7 with e7; omega
                have HV6 := hide hv6
                clear hv6
                go_loopw [68] (fun i wq => R3Rel L s f g m cL no O v6 w i wq) (fun i _ => m - (intOf i).toNat)
                case atStart => exact ⟨0, by omega, rfl, by simpa [brkTo] using HL6.out, HO6.out, HB6.out⟩
                case round =>
                  obtain ⟨j, hj, rfl, hrow, hown, hbel⟩ := hrel
                  have HRW := hide hrow
                  have HOW2 := hide hown
                  have HBW := hide hbel
                  clear hrow hown hbel HL6 HO6 HB6
                  by_cases hlj : j < m
                  · have hjl : j < L.length := by have := HM.out; omega
                    obtain ⟨y, hy⟩ : ∃ y, L[j]? = some y := ⟨L[j], List.getElem?_eq_getElem hjl⟩
                    have HY := hide hy
                    obtain ⟨y0, y1⟩ := y
                    have hc1 : wr.cell? ⟨g, j * 2 + 1, none⟩ = some (.int .i8 y1) := by
                      rw [HRW.out.cell _ (by omega)]
                      exact flat_at mvC 2 _ (fun z _ => rfl) j 1 (y0, y1) _ (brkTo_at hy) rfl
                    have hf1 : wr.frozen? ⟨g, j * 2 + 1, none⟩ = false := HRW.out.frozen _
                    clear hy hjl
                    cases hyf : (y1 == f)
                    · have HYF := hide (show y1 ≠ f by simpa using hyf)
                      go_wp2
                      go_roundw
                      case measure => simp [intOf]; omega
                      case rel => exact ⟨j + 1, by omega, by go_num, by rw [brkTo_skip HY.out HYF.out]; exact HRW.out, HOW2.out, HBW.out⟩
                    · have HYF := hide (show y1 = f by simpa using hyf)
                      go_wp2
                      go_roundw
                      case measure => simp [intOf]; omega
                      case rel =>
                        obtain ⟨q1, q2⟩ := HRW.out.stored (j * 2 + 1) (.int .i8 s)
                        refine ⟨j + 1, by omega, by go_num, ?_, HOW2.out.kept q2 (.inr HV6.out), HBW.out.grown q2 HBW.out.size (fun g' e => by injection e with e; omega)⟩
                        rw [← brkTo_put HY.out HYF.out]
                        exact q1
                  · obtain rfl : j = m := by omega
                    clear hj hlj
                    go_wp2
                    go_roundw
                    case measure =>
                      have q1 := own_len HO5.out
                      have q2 := own_len HOW2.out
                      rw [q1, q2]
                      omega
                    case rel =>
                      have hbrk : brkTo s f j L = brk s f L := by unfold brkTo brk; rw [List.take_of_length_le (by rw [HM.out]; exact Nat.le_refl _), List.drop_of_length_le (by rw [HM.out]; exact Nat.le_refl _), List.append_nil]
                      have hrow := HRW.out
                      rw [hbrk] at hrow
                      have hlb : (brk s f L).length = j := by unfold brk; rw [List.length_map, HM.out]
                      refine ⟨_, _, H2.out.put HLN.out (by rw [HST.out]; exact ⟨HS.out, HFW.out⟩) (by
                        rw [HST.out]
                        intro y hy
                        unfold brk at hy
                        obtain ⟨z, hz, rfl⟩ := List.mem_map.1 hy
                        have hzw := H2.out.wl z hz
                        split
                        · exact ⟨hzw.1, HS.out⟩
                        · exact hzw) (by rw [HST.out]; dsimp only; rw [hlb]; exact hm16) ?_ ?_ ?_ HBW.out⟩
                      · rw [HST.out, HNO2.out]
                        exact HOW2.out
                      · rw [HST.out]
                        dsimp only
                        rw [hlb]
                        exact hrow
                      · intro q hq
                        injection hq with hq
                        subst hq
                        exact HV6.out
end Go.Proofs.Ytdnibhcpbdjhlaa
