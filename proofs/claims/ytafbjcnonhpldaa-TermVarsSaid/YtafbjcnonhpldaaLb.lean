/-
  TermVars: what stands while it runs, and the walk. Conditions: those written in each statement.
-/
import Derived.Test.YtafbjcnonhpldaaVb
import Derived.Test.YtafbjcnonhpldaaQuiew
import Derived.Deep.CutRange
import Derived.Deep.CutBlock
namespace Go.Proofs.Ytafbjcnonhpldaa
open Go.RowKit
set_option linter.unusedVariables false
set_option linter.unusedSimpArgs false
structure LwF (w : World) (g : Nat) (p : PS) (A : Option Addr) (n : Nat) (l : List TD) (F : Nat → Prop) (W : World) : Prop where
  pool : PoolAt W w.heap.size F g p
  tms : TmsAt W w.heap.size A n l
  below : Below w.heap.size w W
section
variable {w W V : World} {g n : Nat} {p p' : PS} {A : Option Addr} {l : List TD} {F F' : Nat → Prop}
theorem LwF.size (h : LwF w g p A n l F W) : w.heap.size ≤ W.heap.size := h.below.size
theorem LwF.step (h : LwF w g p A n l F W) (hb : Below W.heap.size W V) : LwF w g p A n l F V := ⟨h.pool.below hb, h.tms.below (hb.mono h.size), h.below.trans (hb.mono h.size)⟩
theorem LwF.putp (h : LwF w g p A n l F W) (hp : PoolAt V w.heap.size F' g p') (hc : Chg F W V) : LwF w g p' A n l F' V :=
  ⟨hp, h.tms.below (hc.below (fun b q => (h.pool.fb b q).1) h.size), h.below.trans (hc.below (fun b q => (h.pool.fb b q).1) h.size)⟩
/-- A block of the law's own is written. -/
theorem LwF.grown (h : LwF w g p A n l F W) {r : Nat} (hg : W.grownBy V (some r)) (hr : ¬ F r) (hw : w.heap.size ≤ r) : LwF w g p A n l F V :=
  ⟨h.pool.chg (G := fun b => b = r) (Chg.of_grown hg fun q e => .inl (by injection e with e; exact e.symm)) (fun b q e => hr (e ▸ q)), ⟨h.tms.1, h.tms.2.1, h.tms.2.2.grown hg h.size fun q e => by injection e with e; omega⟩, h.below.grown hg h.size fun q e => by injection e with e; omega⟩
end
theorem okF_kind {t : TD} (h : okF t = true) : t.kind = 0 ∨ t.kind = 1 ∨ t.kind = 2 ∨ t.kind = 3 ∨ t.kind = 4 ∨ t.kind = 5 := by
  unfold okF askT at h
  simp only [Bool.and_eq_true] at h
  have h1 := h.1
  by_cases h0 : t.kind = 0
  · exact .inl h0
  by_cases h1' : t.kind = 1
  · exact .inr (.inl h1')
  by_cases h2 : t.kind = 2
  · exact .inr (.inr (.inl h2))
  by_cases h4 : t.kind = 4
  · exact .inr (.inr (.inr (.inr (.inl h4))))
  by_cases h3 : t.kind = 3
  · exact .inr (.inr (.inr (.inl h3)))
  · simp [h0, h1', h2, h3, h4] at h1
    omega
theorem NumsAt.grown_ {w w' : World} {B r : Nat} {s : Value} {l : List Int} (h : NumsAt w B s l) (hg : w.grownBy w' (some r)) (hr : r < B) : NumsAt w' B s l :=
  h.keep hg.size fun i hi hw => hg.block i hw fun e => by injection e with e; omega
section
variable {κ : Type} {P : Program} {k : TypeId} {enc : κ → Value} {V : κ → Prop} {b n : Nat} {f : κ → Option Value}
/-- A look-up without its second answer, in a region that only reads. -/
theorem wpQuiet_look1 {ops : Array Oper} {rest : List Oper} {o : Oper} {a : Act} {W : World} {Q : Act → Prop} (hgd : o.guard = none) (m y : Operand) (t : TypeId) (hop : o.op = .lookup t m y false) (e : TypeId) (E : KeyEnc P k enc V) (ht : P.underlying t = some (.map k e)) (z : Value)
    (hz : ∀ w, (zeroValue e).run P w = .ok z w) (h : MapIs P k enc V W b n f) (x : κ) (hx : V x) (hm : a.eval m = .map (some b)) (hy : a.eval y = enc x) (v : Value) (hv : (f x).getD z = v)
    (hK : wpQuiet P ops (fun w' => ∃ n, w' = W.drewN n) Q rest (a.put o.dst v)) : wpQuiet P ops (fun w' => ∃ n, w' = W.drewN n) Q (o :: rest) a := by
  have hw : Region.wanted o (yielded ops a.tmps) = true := by simp [Region.wanted, hgd]
  unfold wpQuiet
  rw [if_pos hw]
  subst hv
  refine ⟨_, ?_, hK⟩
  rintro w ⟨n, rfl⟩
  unfold Oper.quietAt execOp
  have := (h.drewN n).look E ht (hz _) x hx false
  simp only [hop, hm, hy, Sem.run_bind, this, Result.andThen_ok, Sem.run_pure]
  exact ⟨rfl, rfl⟩
end
theorem NumsAt.rd {w : World} {B n c : Nat} {A : Option Addr} {l : List Int} (h : NumsAt w B (.slice A n c) l) : l.length = n ∧ n ≤ c ∧ Reads w w.heap.size 1 A n (l.map (Value.int .i64)) := by
  obtain ⟨A', c', e, h1, h2, _⟩ := h
  injection e with e1 e2 e3
  subst e1 e2 e3
  exact ⟨rfl, h1, h2⟩
theorem NumsAt.more {w : World} {B C : Nat} {s : Value} {l : List Int} (h : NumsAt w B s l) (hC : C ≤ B) : NumsAt w C s l := by
  obtain ⟨A', c', e, h1, h2, h3⟩ := h
  exact ⟨A', c', e, h1, h2, fun ad q => by have := h3 ad q; omega⟩
theorem vnum_I64 {n : Int} (h : U64 n) : I64 (vnum n) := by
  rw [vnum_eq h]
  unfold I64
  unfold U64 at h
  split <;> omega
theorem IsVars.I64_ {w : World} {base g : Nat} {F : Nat → Prop} {p : PS} {k : Nat} {lv : List Int} {v : Int} (hp : PoolAt w base F g p) (h : IsVars p.T k lv) (hv : v ∈ lv) : I64 v := by
  obtain ⟨i, t, _, ht, _, e⟩ := (h.2 v).1 hv
  rw [← e]
  exact vnum_I64 (hp.rng t (List.mem_of_getElem? ht)).2.2.2.1
theorem IsVars.lt_ {T : List TD} {k r : Nat} {lv : List Int} {a b : Int} (h : IsVars T k lv) (ha : lv[r]? = some a) (hb : lv[r + 1]? = some b) : a < b := by
  obtain ⟨h1, e1⟩ := List.getElem?_eq_some_iff.1 ha
  obtain ⟨h2, e2⟩ := List.getElem?_eq_some_iff.1 hb
  rw [← e1, ← e2]
  exact List.pairwise_iff_getElem.1 h.1 r (r + 1) h1 h2 (by omega)
theorem prtL_few (t : TD) : (prtL t).length ≤ 3 := by
  unfold prtL
  repeat (first | split | simp)
/-- What stands in the round of one term. -/
structure VmF (w : World) (g : Nat) (p : PS) (A : Option Addr) (n : Nat) (l : List TD) (F : Nat → Prop) (A8 : Option Addr) (q : Nat) (xs : List Int) (gm m : Nat) (U : List Int) (W : World) : Prop where
  lw : LwF w g p A n l F W
  nums : Reads W gm 1 A8 q (xs.map (Value.int .i64))
  map : MapIs Try.prog 3 (Value.int .i64) I64 W gm m (inF U)
  nf : ¬ F gm
  ge : w.heap.size ≤ gm
section
variable {w W V : World} {g n q gm m : Nat} {p : PS} {A A8 : Option Addr} {l : List TD} {F : Nat → Prop} {xs U : List Int}
theorem VmF.step (h : VmF w g p A n l F A8 q xs gm m U W) (hb : Below W.heap.size W V) : VmF w g p A n l F A8 q xs gm m U V :=
  ⟨h.lw.step hb, h.nums.below (hb.mono (by have := h.map.lt; omega)), h.map.below hb h.map.lt, h.nf, h.ge⟩
theorem VmF.put (h : VmF w g p A n l F A8 q xs gm m U W) (v : Int) (hm : MapIs Try.prog 3 (Value.int .i64) I64 V gm (m + 1) (putF (inF U) v (.int .i64 1))) (hg : W.grownBy V (some gm)) : VmF w g p A n l F A8 q xs gm (m + 1) (addU U v) V :=
  ⟨h.lw.grown hg h.nf h.ge, h.nums.grown hg (by have := h.map.lt; omega) (fun r e => by injection e with e; omega), hm.congr (inF_put U v), h.nf, h.ge⟩
end
set_option maxRecDepth 100000 in
set_option maxHeartbeats 16000000 in
theorem vars_walk (A : Option Addr) (n cap : Nat) (l : List TD) (w : World) (hh : TmsAt w w.heap.size A n l) (hm : n < 9223372036854775808) (hcap : n ≤ cap) :
    Calls Try.prog 5 #[.slice A n cap] w fun e w' => e = .returned (.bool true) ∧ Below w.heap.size w w' := by
  have HH := hide hh
  clear hh
  cases hg : (decide (400 < n) || decide (200 < n))
  rotate_left
  · have HG := hide hg
    have h200 : 200 < n := by have := HG.out; simp at this; omega
    have h200d : decide ((200 : Int) < (n : Int)) = true := by simp; omega
    clear hg
    cases h4 : decide (400 < n)
    all_goals
      go_enter Try.func5, Try.ntmps5
      go_wp2_with fail
      refine (great_any A n cap _ hm).mono ?_
      rintro e w1 ⟨rfl, rfl⟩
      rw [h4]
      go_wp2_with fail
      refine (wakes_any _).mono ?_
      rintro e w4 ⟨rfl, hb4⟩
      have HBW := hide hb4
      clear hb4
      go_wp2
      go_ret
      exact ⟨rfl, HBW.out⟩
  · have h2 : n ≤ 200 := by simp at hg; omega
    have h4 : n ≤ 400 := by omega
    have h4d : decide (400 < n) = false := by simp; omega
    clear hg
    go_enter Try.func5, Try.ntmps5
    go_wp2_with fail
    refine (great_any A n cap _ hm).mono ?_
    rintro e w1 ⟨rfl, rfl⟩
    rw [h4d]
    clear h4d
    go_wp2_with fail
    refine (new_any _).mono ?_
    rintro e w2 ⟨g, F, rfl, hp, hb⟩
    have HB := hide (⟨hp, HH.out.below hb, hb⟩ : LwF w g ⟨[], []⟩ A n l F w2)
    clear hp hb HH
    go_wp2
    go_loopw [4] (fun iv wq => ∃ (i : Nat) (F : Nat → Prop), i ≤ n ∧ iv = .int .i64 i ∧ LwF w g (putAll ⟨[], []⟩ (l.take i)) A n l F wq) (fun iv _ => n - (intOf iv).toNat)
    case atStart => exact ⟨0, F, by omega, rfl, HB.out⟩
    case round =>
      obtain ⟨i, F, hi, rfl, hb⟩ := hrel
      clear HB
      have HB := hide hb
      clear hb
      by_cases hlt : i < n
      · obtain ⟨ad, x, rfl, _, hx, hxw, hcl⟩ := HB.out.tms.at_ hlt
        have HTK := hide (show putAll ⟨[], []⟩ (l.take (i + 1)) = putP (putAll ⟨[], []⟩ (l.take i)) x by
          rw [List.take_add_one, hx]
          exact putAll_snoc _ _ _)
        have HXW := hide hxw
        have HCL := hide hcl
        have hic : i < cap := by omega
        clear hx hxw hcl
        go_wp2_with (first
          | (refine wpList_load_at rfl 32 (.tmp 34) rfl (ad.add (i * 7)) (by rfl) x.cells _ HCL.out Try.underlying32 rfl sizT ?_)
          | fail)
        refine (put_any x HXW.out _ HB.out.pool HB.out.size).mono ?_
        rintro e w3 ⟨rfl, F2, hp2, hc2, hf2⟩
        have HB2 := hide (HB.out.putp hp2 hc2)
        clear hp2 hc2 hf2 HCL HB
        go_wp2
        go_roundw
        case measure => simp [intOf]; omega
        case rel => exact ⟨i + 1, F2, by omega, by go_num, by rw [HTK.out]; exact HB2.out⟩
      · obtain rfl : i = n := by omega
        have HB0 := hide (show LwF w g (putAll ⟨[], []⟩ l) A i l F wr by have := HB.out; rw [← HB.out.tms.1, List.take_length] at this; rw [HB.out.tms.1] at this; exact this)
        clear HB
        obtain ⟨p, hp⟩ : ∃ p, putAll ⟨[], []⟩ l = p := ⟨_, rfl⟩
        rw [hp] at HB0
        have hfew := HB0.out.pool.few
        clear hp
        go_wp2
        obtain ⟨wo, rfl⟩ : ∃ wo : World, wo = wr := ⟨_, rfl⟩
        go_loopw [5] (fun iv wq => ∃ (k : Nat), k ≤ p.T.length ∧ iv = .int .i64 k ∧ LwF w g p A i l F wq) (fun iv _ => p.T.length - (intOf iv).toNat)
        case atStart => exact ⟨0, by omega, rfl, HB0.out⟩
        case round =>
          obtain ⟨k, hk, rfl, hb⟩ := hrel
          clear HB0
          have HB := hide hb
          clear hb
          go_wp2_with fail
          refine (len_any HB.out.pool).mono ?_
          rintro e w3 ⟨rfl, rfl⟩
          by_cases hkm : k < p.T.length
          · have hT : p.T[k]? = some p.T[k] := List.getElem?_eq_getElem hkm
            generalize p.T[k] = t at hT
            have HTJ := hide hT
            have HTW := hide (HB.out.pool.rng t (List.mem_of_getElem? hT))
            clear hT
            go_wp2_with fail
            refine (get_any HB.out.pool HTJ.out).mono ?_
            rintro e w4 ⟨rfl, hb⟩
            have HB4 := hide (HB.out.step hb)
            clear hb HB
            go_upto_region 15 with (first
              | (refine wpList_store_new rfl 32 (.tmp 6) (.tmp 47) rfl _ t.cells (termV t) (by rfl) (by rfl) rfl sizT rfl (TD.one _) ?_
                 intro w5 G5 L5 Z5
                 have HB5 := hide (HB4.out.step L5)
                 have HX5 := hide G5
                 clear G5 L5 Z5)
              | fail)
            obtain ⟨bt, hbt⟩ : ∃ b, w4.heap.size = b := ⟨_, rfl⟩
            rw [hbt] at HX5 ⊢
            clear hbt HB4
            have b0 := HX5.out.cell 0
            have b4 := HX5.out.cell 4
            have b5 := HX5.out.cell 5
            have b6 := HX5.out.cell 6
            simp [TD.cells] at b0 b4 b5 b6
            have hok := HB5.out.pool.wf.ok k t HTJ.out
            rcases okF_kind hok with hk0 | hk0 | hkd
            · rw [hk0] at b0
              go_wp2
              go_roundw
              case measure => simp [intOf]; omega
              case rel => exact ⟨k + 1, by omega, by go_num, HB5.out⟩
            · rw [hk0] at b0
              go_wp2
              go_roundw
              case measure => simp [intOf]; omega
              case rel => exact ⟨k + 1, by omega, by go_num, HB5.out⟩
            · skip
              go_upto_block 4 with fail
              go_cut [8] from 53 to 74 (fun sv wc => ∃ A8 c8, sv = .slice A8 (prtL t).length c8 ∧ LwF w g p A i l F wc ∧ NumsAt wc w.heap.size sv (prtL t))
              case first =>
                rcases hkd with hk0 | hk0 | hk0 | hk0
                · as_aux_lemma =>
                    have e2 : (t.kind == 2) = true := by rw [hk0]; rfl
                    have e4 : (t.kind == 4) = false := by rw [hk0]; rfl
                    have e3 : (t.kind == 3) = false := by rw [hk0]; rfl
                    have e5 : (t.kind == 5) = false := by rw [hk0]; rfl
                    have hpl : prtL t = [t.a, t.b] := by unfold prtL; rw [if_pos (.inl hk0)]
                    go_wp2
                    go_meet
                    case rel => rw [hpl]; exact ⟨_, _, rfl, HB5.out.step ((Below.refl _ _).alloc (Nat.le_refl _) _), NumsAt.new _ HB5.out.size [t.a, t.b]⟩
                · as_aux_lemma =>
                    have e2 : (t.kind == 2) = false := by rw [hk0]; rfl
                    have e4 : (t.kind == 4) = false := by rw [hk0]; rfl
                    have e3 : (t.kind == 3) = true := by rw [hk0]; rfl
                    have e5 : (t.kind == 5) = false := by rw [hk0]; rfl
                    have hpl : prtL t = [t.a] := by unfold prtL; rw [if_neg (by omega), if_pos hk0]
                    go_wp2
                    go_meet
                    case rel => rw [hpl]; exact ⟨_, _, rfl, HB5.out.step ((Below.refl _ _).alloc (Nat.le_refl _) _), NumsAt.new _ HB5.out.size [t.a]⟩
                · as_aux_lemma =>
                    have e2 : (t.kind == 2) = false := by rw [hk0]; rfl
                    have e4 : (t.kind == 4) = true := by rw [hk0]; rfl
                    have e3 : (t.kind == 3) = false := by rw [hk0]; rfl
                    have e5 : (t.kind == 5) = false := by rw [hk0]; rfl
                    have hpl : prtL t = [t.a, t.b] := by unfold prtL; rw [if_pos (.inr hk0)]
                    go_wp2
                    go_meet
                    case rel => rw [hpl]; exact ⟨_, _, rfl, HB5.out.step ((Below.refl _ _).alloc (Nat.le_refl _) _), NumsAt.new _ HB5.out.size [t.a, t.b]⟩
                · as_aux_lemma =>
                    have e2 : (t.kind == 2) = false := by rw [hk0]; rfl
                    have e4 : (t.kind == 4) = false := by rw [hk0]; rfl
                    have e3 : (t.kind == 3) = false := by rw [hk0]; rfl
                    have e5 : (t.kind == 5) = true := by rw [hk0]; rfl
                    have hpl : prtL t = [t.a, t.b, t.c] := by unfold prtL; rw [if_neg (by omega), if_neg (by omega), if_pos hk0]
                    go_wp2
                    go_meet
                    case rel => rw [hpl]; exact ⟨_, _, rfl, HB5.out.step ((Below.refl _ _).alloc (Nat.le_refl _) _), NumsAt.new _ HB5.out.size [t.a, t.b, t.c]⟩
              case rest =>
                obtain ⟨A8, c8, rfl, hb, hn⟩ := hcut
                replace HB5 := hide hb
                have HN := hide hn
                have hk1 : t.kind ≠ 1 := by omega
                have HPT := hide (HB5.out.pool.wf.part k t HTJ.out)
                have hq3 := prtL_few t
                clear HX5 b0 b4 b5 b6 hb hn hkd hok
                obtain ⟨q, hq⟩ : ∃ q, (prtL t).length = q := ⟨_, rfl⟩
                have HQ := hide hq
                rw [hq] at HN hq3 ⊢
                clear hq
                have hc8 := HN.out.rd.2.1
                go_wp2_with (first
                  | (refine wpList_makeMap (Value.int .i64) I64 3 rfl 41 rfl ?_
                     intro wm gm Gm Mm Lm
                     have HV := hide (⟨HB5.out.step Lm, (HN.out.rd.2.2.below Lm).more Gm, Mm.congr (fun x => by unfold inF; simp), fun e => by have := (HB5.out.pool.fb _ e).2; omega, by have := HB5.out.size; omega⟩ : VmF w g p A i l F A8 q (prtL t) gm 0 [] wm)
                     clear Gm Mm Lm)
                  | fail)
                clear HB5 HN
                go_loopw [9, 11] (fun dv iv wq => ∃ (j m : Nat) (d : Int) (U : List Int), j ≤ q ∧ iv = .int .i64 j ∧ dv = .int .i64 d ∧ 0 ≤ d ∧ d ≤ 256 ∧ m ≤ 4000 * j ∧ VmF w g p A i l F A8 q (prtL t) gm m U wq ∧ PartR p t j d U) (fun _ iv _ => q - (intOf iv).toNat)
                case atStart => exact ⟨0, 0, 0, [], by omega, rfl, rfl, by omega, by omega, by omega, HV.out, PartR.zero p t⟩
                case round =>
                  obtain ⟨j, m, d, U, hj, rfl, rfl, hd0, hd2, hm4, hb, hR⟩ := hrel
                  clear HV
                  have HV := hide hb
                  have HR := hide hR
                  clear hb hR
                  by_cases hjq : j < q
                  · obtain ⟨ad8, u8, rfl, _, hu8, cn⟩ := HV.out.nums.at_ hjq
                    obtain ⟨x, hx, rfl⟩ : ∃ x, (prtL t)[j]? = some x ∧ Value.int .i64 x = u8 := by
                      rw [List.getElem?_map] at hu8
                      cases h : (prtL t)[j]? with
                      | none => rw [h] at hu8; cases hu8
                      | some x => rw [h] at hu8; exact ⟨x, rfl, Option.some.inj hu8⟩
                    have hpx := HPT.out x (List.mem_of_getElem? hx)
                    obtain ⟨a1, rfl⟩ := Int.eq_ofNat_of_zero_le hpx.1
                    have hal : a1 < p.T.length := by omega
                    obtain ⟨y, hy⟩ : ∃ y, p.D[a1]? = some y := ⟨_, List.getElem?_eq_getElem (by rw [HV.out.lw.pool.wf.len]; exact hal)⟩
                    have hyl := HV.out.lw.pool.wf.low y (List.mem_of_getElem? hy)
                    have HX := hide hx
                    have HY := hide hy
                    have hjc : j < c8 := by omega
                    clear hu8 hx hy hpx
                    go_upto_region 28 with fail
                    go_cut [9] from 82 to 89 (fun x wc => x = .int .i64 (max d y) ∧ wc = wr)
                    case first =>
                      as_aux_lemma =>
                        go_wp2_with fail
                        refine (deep_any HV.out.lw.pool HY.out).mono ?_
                        rintro e w6 ⟨rfl, rfl⟩
                        go_wp2_with fail
                        all_goals
                          go_meet
                          case rel => exact ⟨by congr 1; omega, rfl⟩
                    case rest =>
                    obtain ⟨rfl, rfl⟩ := hcut
                    go_wp2_with fail
                    refine (vars_any _ HV.out.lw.pool hal).mono ?_
                    rintro e w8 ⟨sv8, lv, rfl, hiv, hnv, hl8, hb8⟩
                    have HIV := hide hiv
                    have hgB := HV.out.map.lt
                    have HNV := hide (hnv.more (Nat.succ_le_of_lt hgB))
                    replace HV := hide (HV.out.step hb8)
                    obtain ⟨A9, c9, rfl, hc9, _, _⟩ := hnv
                    obtain ⟨qv, hqv⟩ : ∃ q, lv.length = q := ⟨_, rfl⟩
                    have HQV := hide hqv
                    rw [hqv] at HNV hc9 hl8 ⊢
                    clear hiv hqv hb8 cn hgB
                    go_wp2
                    go_loopw [13] (fun iv wq => ∃ (r m2 : Nat) (U2 : List Int), r ≤ qv ∧ iv = .int .i64 r ∧ m2 ≤ 4000 * j + r ∧ VmF w g p A i l F (some ad8) q (prtL t) gm m2 U2 wq ∧ PartS p t j lv r U U2 ∧ NumsAt wq (gm + 1) (.slice A9 qv c9) lv) (fun iv _ => qv - (intOf iv).toNat)
                    case atStart => exact ⟨0, m, U, by omega, rfl, by omega, HV.out, PartS.zero HR.out.nd, HNV.out⟩
                    case round =>
                      obtain ⟨r, m2, U2, hr, rfl, hm2, hb, hS, hn⟩ := hrel
                      clear HV HNV
                      have HV := hide hb
                      have HS := hide hS
                      have HNV := hide hn
                      clear hb hS hn
                      by_cases hrq : r < qv
                      · obtain ⟨ad9, v, rfl, _, hv, _, _, cv⟩ := HNV.out.at_ hrq
                        have HVI := hide (HIV.out.I64_ HV.out.lw.pool (List.mem_of_getElem? hv))
                        have HVX := hide hv
                        have hrc : r < c9 := by omega
                        clear hv
                        go_wp2_with (first
                          | (refine wpList_put rfl (.tmp 102) (.tmp 106) (.const (.int .i64 1)) 41 rfl 3 numK Try.underlying41 HV.out.map (by unfold maxLen; omega) v HVI.out (.int .i64 1) (by rfl) (by rfl) (by rfl) ?_
                             intro w9 M9 G9
                             have HV9 := hide (HV.out.put v M9 G9)
                             have HN9 := hide (HNV.out.grown_ G9 (Nat.lt_succ_self _))
                             clear M9 G9)
                          | fail)
                        go_roundw
                        case measure => simp [intOf]; omega
                        case rel => exact ⟨r + 1, m2 + 1, addU U2 v, by omega, by go_num, by omega, HV9.out, HS.out.step HVX.out, HN9.out⟩
                      · obtain rfl : r = qv := by omega
                        have HR2 := hide (HR.out.step HX.out HY.out (by omega) hd0 HIV.out (by rw [HQV.out]; exact HS.out))
                        go_wp2
                        exact ⟨⟨j + 1, m2, max d y, U2, by omega, by go_num, by go_num, by omega, by omega, by omega, HV.out, HR2.out⟩, by simp [intOf]; omega⟩
                  · obtain rfl : j = q := by omega
                    go_wp2_with fail
                    refine (vars_any _ HV.out.lw.pool hkm).mono ?_
                    rintro e w8 ⟨sv8, own, rfl, hiv, hnv, hl8, hb8⟩
                    have HIV := hide hiv
                    have HNV := hide hnv
                    replace HV := hide (HV.out.step hb8)
                    obtain ⟨A9, c9, rfl, hc9, _, _⟩ := hnv
                    obtain ⟨qv, hqv⟩ : ∃ q, own.length = q := ⟨_, rfl⟩
                    have HDN := hide (PartR.done (by rw [HQ.out]; exact HR.out) HV.out.lw.pool.wf HTJ.out hk1 hiv)
                    have hUq : U.length = qv := by rw [← hqv]; exact HDN.out.2.1.symm
                    obtain ⟨B9, HNV⟩ : ∃ B, Hid (NumsAt w8 B (.slice A9 qv c9) own) := ⟨_, hide (by rw [← hqv]; exact HNV.out)⟩
                    rw [hqv] at hc9 hl8 ⊢
                    clear hiv hqv hb8
                    go_wp2
                    go_loopw [15] (fun iv wq => ∃ (r : Nat), r ≤ qv ∧ iv = .int .i64 r ∧ VmF w g p A i l F A8 j (prtL t) gm m U wq ∧ NumsAt wq B9 (.slice A9 qv c9) own) (fun iv _ => qv - (intOf iv).toNat)
                    case atStart => exact ⟨0, by omega, rfl, HV.out, HNV.out⟩
                    case round =>
                      obtain ⟨r, hr, rfl, hb, hn⟩ := hrel
                      clear HV HNV
                      have HV := hide hb
                      have HNV := hide hn
                      clear hb hn
                      by_cases hrq : r < qv
                      · obtain ⟨ad9, v, rfl, _, hv, _, _, cv⟩ := HNV.out.at_ hrq
                        have hvm := List.mem_of_getElem? hv
                        have HVI := hide (HIV.out.I64_ HV.out.lw.pool hvm)
                        have HVU := hide (show (inF U v).getD (.int .i64 0) = .int .i64 1 by unfold inF; rw [if_pos (HDN.out.2.2 v hvm)]; rfl)
                        have hrc : r < c9 := by omega
                        by_cases h0 : r = 0
                        · subst h0
                          simp [Addr.add] at cv
                          clear hv hvm
                          go_wp2
                          refine wp_region_quiet_lit (by kernel_rfl) (by kernel_rfl) ?_
                          iterate 5 go_big_quiet_step (fail)
                          refine wpQuiet_look1 rfl (.tmp 116) (.tmp 120) 41 rfl 3 numK Try.underlying41 (.int .i64 0) zeroIn HV.out.map v HVI.out (by rfl) (by rfl) (.int .i64 1) HVU.out ?_
                          go_simp
                          repeat (first | go_big_quiet_step (fail) | quiet_step (fail))
                          refine wpQuiet_nil ?_
                          first
                            | (intro wq hwq; obtain ⟨nq, rfl⟩ := hwq)
                            | intro nq
                          go_wp2
                          go_roundw
                          case measure => simp [intOf]; omega
                          case rel => exact ⟨0 + 1, by omega, by go_num, HV.out.step (below_drewN (Below.refl _ _) nq), HNV.out.step (below_drewN (Below.refl _ _) nq)⟩
                        · obtain ⟨_, v0, e9, _, hv0, _, _, cv0⟩ := HNV.out.at_ (k := r - 1) (by omega)
                          injection e9 with e9
                          subst e9
                          have hlt := HIV.out.lt_ (r := r - 1) hv0 (by rw [show r - 1 + 1 = r from by omega]; exact hv)
                          have hle : decide (v ≤ v0) = false := by simp; omega
                          have hr0 : 0 < r := by omega
                          have hgt : decide ((0 : Int) < (r : Int)) = true := by simp; omega
                          have hgt2 : decide (0 < r) = true := by simp; omega
                          have hrn : ((r : Int) - 1).toNat = r - 1 := by omega
                          clear hv hvm hv0
                          go_wp2
                          refine wp_region_quiet_lit (by kernel_rfl) (by kernel_rfl) ?_
                          iterate 5 go_big_quiet_step (fail)
                          refine wpQuiet_look1 rfl (.tmp 116) (.tmp 120) 41 rfl 3 numK Try.underlying41 (.int .i64 0) zeroIn HV.out.map v HVI.out (by rfl) (by rfl) (.int .i64 1) HVU.out ?_
                          go_simp
                          repeat (first | go_big_quiet_step (fail) | quiet_step (fail))
                          refine wpQuiet_nil ?_
                          first
                            | (intro wq hwq; obtain ⟨nq, rfl⟩ := hwq)
                            | intro nq
                          go_wp2
                          go_roundw
                          case measure => simp [intOf]; omega
                          case rel => exact ⟨r + 1, by omega, by go_num, HV.out.step (below_drewN (Below.refl _ _) nq), HNV.out.step (below_drewN (Below.refl _ _) nq)⟩
                      · obtain rfl : r = qv := by omega
                        obtain ⟨es, clk, hm, hsz⟩ := HV.out.map.size numK U HR.out.nd (fun x => by unfold inF; split <;> simp_all)
                        rw [hUq] at hsz
                        have hlen := fun ty => run_len_map (P := Try.prog) (w := wr) 41 ty gm es clk (by kernel_rfl) hm
                        rw [hsz] at hlen
                        clear hm hsz
                        go_wp2_with fail
                        refine (deep_any HV.out.lw.pool HDN.out.1).mono ?_
                        rintro e w9 ⟨rfl, rfl⟩
                        go_wp2
                        exact ⟨⟨k + 1, by omega, by go_num, HV.out.lw⟩, by simp [intOf]; omega⟩
          · obtain rfl : k = p.T.length := by omega
            go_wp2_with fail
            refine (wakes_any _).mono ?_
            rintro e w4 ⟨rfl, hb4⟩
            have HBW := hide (HB.out.below.trans (hb4.mono HB.out.size))
            clear hb4 HB
            go_wp2
            go_ret
            exact ⟨rfl, HBW.out⟩
end Go.Proofs.Ytafbjcnonhpldaa
