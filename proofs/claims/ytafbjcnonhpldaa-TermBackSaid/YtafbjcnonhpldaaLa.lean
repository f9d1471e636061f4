/-
  TermBack, plain, and what stands while it runs. Conditions: those written in each statement.
-/
import Derived.Test.YtafbjcnonhpldaaLw
import Derived.Test.YtafbjcnonhpldaaQuiew
import Derived.Lib.QuietBelow
import Derived.Deep.CutRange
namespace Go.Proofs.Ytafbjcnonhpldaa
open Go.RowKit
set_option linter.unusedVariables false
set_option linter.unusedSimpArgs false
/-- Numbers and the terms that have them. -/
structure BackR (p : PS) (ps : List Int) (ws : List TD) : Prop where
  len : ps.length = ws.length
  at_ : ∀ (j : Nat) (t : TD), ws[j]? = some t → ∃ i : Nat, ps[j]? = some (i : Int) ∧ p.T[i]? = some t
  few : p.T.length ≤ ps.length
theorem BackR.nil : BackR ⟨[], []⟩ [] [] := ⟨rfl, by simp, by simp⟩
theorem putP_err {p : PS} {t : TD} (h : (putN p t).2 ≠ 0) : putP p t = p := by
  rcases putP_cases p t with ⟨e, _⟩ | ⟨_, _, _, _, _, e⟩
  · exact e
  · rw [e] at h; exact absurd rfl h
theorem BackR.bad {p : PS} {ps : List Int} {ws : List TD} {t : TD} (h : BackR p ps ws) (he : (putN p t).2 ≠ 0) : BackR (putP p t) ps ws := by
  rw [putP_err he]; exact h
theorem putP_grow (p : PS) (t : TD) : (putP p t).T.length ≤ p.T.length + 1 := by
  rcases putP_cases p t with ⟨e, _⟩ | ⟨_, _, _, _, e, _⟩
  · rw [e]; omega
  · rw [e]; simp
theorem BackR.good {p : PS} {ps : List Int} {ws : List TD} {t : TD} (h : BackR p ps ws) (he : (putN p t).2 = 0) : BackR (putP p t) (ps ++ [(putN p t).1]) (ws ++ [t]) := by
  obtain ⟨i, hi, hT, _⟩ := putN_ok he
  refine ⟨by simp [h.len], fun j u hu => ?_, ?_⟩
  · rcases Nat.lt_trichotomy j ws.length with hj | hj | hj
    · rw [List.getElem?_append_left hj] at hu
      obtain ⟨k, h1, h2⟩ := h.at_ j u hu
      exact ⟨k, by rw [List.getElem?_append_left (by rw [h.len]; exact hj)]; exact h1, putP_keeps t h2⟩
    · subst hj
      simp at hu
      subst hu
      refine ⟨i, ?_, hT⟩
      rw [← h.len]
      simp [hi]
    · rw [List.getElem?_eq_none (by simp; omega)] at hu; cases hu
  · have := putP_grow p t
    have := h.few
    simp
    omega
def partsB (t : TD) : Bool := t.kind == 2 || (t.kind == 4 || (t.kind == 3 || t.kind == 5))
theorem parts_lt {t : TD} {j : Nat} (h : partsB t = true) (ho : okF t = true) (hp : ∀ k ∈ prtL t, 0 ≤ k ∧ k < (j : Int)) : t.a < j ∧ t.b < j ∧ t.c < j := by
  unfold okF at ho
  simp only [Bool.and_eq_true, decide_eq_true_eq] at ho
  have hl := ho.2
  unfold partsB at h
  simp only [Bool.or_eq_true, beq_iff_eq] at h
  unfold prtL at hp
  rcases h with q | q | q | q
  · rw [if_pos (.inl q)] at hp
    have h1 := hp t.a (by simp)
    have h2 := hp t.b (by simp)
    have h3 : t.c = 0 := by rw [hl]; simp [likeT, q]
    omega
  · rw [if_pos (.inr q)] at hp
    have h1 := hp t.a (by simp)
    have h2 := hp t.b (by simp)
    have h3 : t.c = 0 := by rw [hl]; simp [likeT, q]
    omega
  · rw [if_neg (by omega), if_pos q] at hp
    have h1 := hp t.a (by simp)
    have h2 : t.b = 0 := by rw [hl]; simp [likeT, q]
    have h3 : t.c = 0 := by rw [hl]; simp [likeT, q]
    omega
  · rw [if_neg (by omega), if_neg (by omega), if_pos q] at hp
    have h1 := hp t.a (by simp)
    have h2 := hp t.b (by simp)
    have h3 := hp t.c (by simp)
    omega
theorem tfld0 (g : Nat) (w : World) : (Instr.fieldAt 32 (.pointer (some ⟨g, 0, none⟩)) 0).run Try.prog w = .ok (.pointer (some ⟨g, 0, none⟩)) w := by go_simp
theorem tfld4 (g : Nat) (w : World) : (Instr.fieldAt 32 (.pointer (some ⟨g, 0, none⟩)) 4).run Try.prog w = .ok (.pointer (some ⟨g, 4, none⟩)) w := by go_simp
/-- What stands while the law runs. -/
structure BkF (w : World) (g : Nat) (p : PS) (A : Option Addr) (n : Nat) (l : List TD) (F : Nat → Prop) (sv : Value) (ps : List Int) (sw : Value) (ws : List TD) (W : World) : Prop where
  pool : PoolAt W w.heap.size F g p
  tms : TmsAt W w.heap.size A n l
  below : Below w.heap.size w W
  put : W.ownsRow w.heap.size 3 1 sv ps.length (ps.map (Value.int .i64))
  was : W.ownsRow w.heap.size 32 7 sw ws.length (ws.flatMap TD.cells)
  fp : ∀ b, sv.ownBlock = some b → ¬ F b
  fw : ∀ b, sw.ownBlock = some b → ¬ F b
section
variable {w W V : World} {g n : Nat} {p p' : PS} {A : Option Addr} {l : List TD} {F F' : Nat → Prop} {sv sw sv' sw' : Value} {ps ps' : List Int} {ws ws' : List TD} {t : TD}
theorem BkF.size (h : BkF w g p A n l F sv ps sw ws W) : w.heap.size ≤ W.heap.size := h.below.size
theorem BkF.step (h : BkF w g p A n l F sv ps sw ws W) (hb : Below W.heap.size W V) : BkF w g p A n l F sv ps sw ws V :=
  ⟨h.pool.below hb, h.tms.below (hb.mono h.size), h.below.trans (hb.mono h.size), own_block h.put fun r q => hb.block r (own_ge h.put r q).2, own_block h.was fun r q => hb.block r (own_ge h.was r q).2, h.fp, h.fw⟩
theorem BkF.putp (h : BkF w g p A n l F sv ps sw ws W) (hp : PoolAt V w.heap.size F' g p') (hc : Chg F W V) (hf : ∀ b, F' b → F b ∨ W.heap.size ≤ b) : BkF w g p' A n l F' sv ps sw ws V where
  pool := hp
  tms := h.tms.below (hc.below (fun b q => (h.pool.fb b q).1) h.size)
  below := h.below.trans (hc.below (fun b q => (h.pool.fb b q).1) h.size)
  put := hc.own h.put h.fp
  was := hc.own h.was h.fw
  fp := fun b q r => (hf b r).elim (h.fp b q) (fun e => by have := (own_ge h.put b q).2; omega)
  fw := fun b q r => (hf b r).elim (h.fw b q) (fun e => by have := (own_ge h.was b q).2; omega)
theorem BkF.appp (h : BkF w g p A n l F sv ps sw ws W) (hr : V.ownsRow w.heap.size 3 1 sv' ps'.length (ps'.map (Value.int .i64))) (hg : W.grownBy V sv.ownBlock) (hn : ∀ b, sv'.ownBlock = some b → sv.ownBlock = some b ∨ W.heap.size ≤ b) : BkF w g p A n l F sv' ps' sw ws V where
  pool := h.pool.chg (G := fun b => sv.ownBlock = some b) (Chg.of_grown hg fun r e => .inl e) fun b q e => h.fp b e q
  tms := ⟨h.tms.1, h.tms.2.1, h.tms.2.2.grown hg h.size fun r e => (own_ge h.put r e).1⟩
  below := h.below.grown hg h.size fun r e => (own_ge h.put r e).1
  put := hr
  was := own_block h.was fun r q => hg.block r (own_ge h.was r q).2 fun e => own_own_ne h.put h.was (by decide) e.symm q
  fp := fun b q r => (hn b q).elim (fun e => h.fp b e r) (fun e => by have := (h.pool.fb b r).2; omega)
  fw := h.fw
theorem BkF.appw (h : BkF w g p A n l F sv ps sw ws W) (hr : V.ownsRow w.heap.size 32 7 sw' ws'.length (ws'.flatMap TD.cells)) (hg : W.grownBy V sw.ownBlock) (hn : ∀ b, sw'.ownBlock = some b → sw.ownBlock = some b ∨ W.heap.size ≤ b) : BkF w g p A n l F sv ps sw' ws' V where
  pool := h.pool.chg (G := fun b => sw.ownBlock = some b) (Chg.of_grown hg fun r e => .inl e) fun b q e => h.fw b e q
  tms := ⟨h.tms.1, h.tms.2.1, h.tms.2.2.grown hg h.size fun r e => (own_ge h.was r e).1⟩
  below := h.below.grown hg h.size fun r e => (own_ge h.was r e).1
  put := own_block h.put fun r q => hg.block r (own_ge h.put r q).2 fun e => own_own_ne h.was h.put (by decide) e.symm q
  was := hr
  fp := h.fp
  fw := fun b q r => (hn b q).elim (fun e => h.fw b e r) (fun e => by have := (h.pool.fb b r).2; omega)
/-- A number of the row, a term of the row. -/
theorem BkF.num {g4 c m k : Nat} {x : Int} (h : BkF w g p A n l F (.slice (some ⟨g4, 0, none⟩) m c) ps sw ws W) (hm : ps.length = m) (hk : ps[k]? = some x) : W.cell? ⟨g4, k, none⟩ = some (.int .i64 x) := by
  have hr := RowL.of_own h.put
  rw [hm] at hr
  rw [hr.cell k (by have := (List.getElem?_eq_some_iff.1 hk).1; omega), List.getElem?_map, hk]
  rfl
theorem BkF.trm {g5 c m k : Nat} {x : TD} (h : BkF w g p A n l F sv ps (.slice (some ⟨g5, 0, none⟩) m c) ws W) (hm : ws.length = m) (hk : ws[k]? = some x) : ∀ j u, x.cells[j]? = some u → W.cell? ((⟨g5, k * 7, none⟩ : Addr).add j) = some u := by
  intro j u hu
  have hr := RowL.of_own h.was
  rw [hm] at hr
  have hj : j < 7 := (List.getElem?_eq_some_iff.1 hu).1
  have hkl : k < ws.length := (List.getElem?_eq_some_iff.1 hk).1
  rw [show (⟨g5, k * 7, none⟩ : Addr).add j = ⟨g5, k * 7 + j, none⟩ from by unfold Addr.add; split <;> simp_all, hr.cell (k * 7 + j) (by omega)]
  exact flat_at TD.cells 7 ws (fun _ _ => rfl) k j x u hk hu
theorem BkF.form {A4 A5 : Option Addr} {c4 c5 m : Nat} (h : BkF w g p A n l F (.slice A4 m c4) ps (.slice A5 m c5) ws W) (h1 : ps.length = m) (h2 : ws.length = m) (hm : 0 < m) : ∃ g4 g5, A4 = some ⟨g4, 0, none⟩ ∧ A5 = some ⟨g5, 0, none⟩ ∧ m ≤ c4 ∧ m ≤ c5 := by
  have r4 := RowL.of_own h.put
  have r5 := RowL.of_own h.was
  rw [h1] at r4
  rw [h2] at r5
  obtain ⟨g4, k4, e4, q4, _⟩ := r4.form hm
  obtain ⟨g5, k5, e5, q5, _⟩ := r5.form hm
  injection e4 with a1 a2 a3
  injection e5 with b1 b2 b3
  exact ⟨g4, g5, a1, b1, by omega, by omega⟩
end
set_option maxRecDepth 100000 in
set_option maxHeartbeats 16000000 in
theorem back_walk (A : Option Addr) (n cap : Nat) (l : List TD) (w : World) (hh : TmsAt w w.heap.size A n l) (hm : n < 9223372036854775808) (hcap : n ≤ cap) :
    Calls Try.prog 4 #[.slice A n cap] w fun e w' => e = .returned (.bool true) ∧ Below w.heap.size w w' := by
  have HH := hide hh
  clear hh
  cases hg : (decide (400 < n) || decide (200 < n))
  rotate_left
  · have HG := hide hg
    have h200 : 200 < n := by have := HG.out; simp at this; omega
    have h200d : decide ((200 : Int) < (n : Int)) = true := by simp; omega
    clear hg
    cases h4 : decide (400 < n)
    all_goals
      go_enter Try.func4, Try.ntmps4
      go_wp2_with fail
      refine (great_any A n cap _ hm).mono ?_
      rintro e w1 ⟨rfl, rfl⟩
      rw [h4]
      go_wp2_with fail
      refine (wakes_any _).mono ?_
      rintro e w4 ⟨rfl, hb4⟩
      have HBW := hide hb4
      clear hb4
      go_wp2
      go_ret
      exact ⟨rfl, HBW.out⟩
  · have h2 : n ≤ 200 := by simp at hg; omega
    have h4 : n ≤ 400 := by omega
    have h4d : decide (400 < n) = false := by simp; omega
    clear hg
    go_enter Try.func4, Try.ntmps4
    go_wp2_with fail
    refine (great_any A n cap _ hm).mono ?_
    rintro e w1 ⟨rfl, rfl⟩
    rw [h4d]
    clear h4d
    go_wp2_with fail
    refine (new_any _).mono ?_
    rintro e w2 ⟨g, F, rfl, hp, hb⟩
    have HB := hide (⟨hp, HH.out.below hb, hb, ⟨rfl, .inl ⟨rfl, rfl⟩⟩, ⟨rfl, .inl ⟨rfl, rfl⟩⟩, fun b q => by simp [Value.ownBlock] at q, fun b q => by simp [Value.ownBlock] at q⟩ : BkF w g ⟨[], []⟩ A n l F (.slice none 0 0) [] (.slice none 0 0) [] w2)
    clear hp hb HH
    obtain ⟨iM, hiM, hzM, hsM, hbM⟩ := info_parts infTm
    have IM := hide (And.intro hiM (And.intro hzM (And.intro hsM hbM)))
    clear hiM hzM hsM hbM
    obtain ⟨iN, hiN, hzN, hsN, hbN⟩ := info_parts infIn
    have IN := hide (And.intro hiN (And.intro hzN (And.intro hsN hbN)))
    clear hiN hzN hsN hbN
    go_wp2
    go_loopw [4, 5, 6] (fun sv sw iv wq => ∃ (i : Nat) (ps : List Int) (ws : List TD) (F : Nat → Prop), i ≤ n ∧ iv = .int .i64 i ∧ BkF w g (putAll ⟨[], []⟩ (l.take i)) A n l F sv ps sw ws wq ∧ BackR (putAll ⟨[], []⟩ (l.take i)) ps ws ∧ ps.length ≤ i) (fun _ _ iv _ => n - (intOf iv).toNat)
    case atStart => exact ⟨0, [], [], F, by omega, rfl, HB.out, BackR.nil, by simp⟩
    case round =>
      obtain ⟨i, ps, ws, F, hi, rfl, hb, hR, hl⟩ := hrel
      clear HB
      have HB := hide hb
      have HR := hide hR
      clear hb hR
      by_cases hlt : i < n
      · obtain ⟨ad, x, rfl, _, hx, hxw, hcl⟩ := HB.out.tms.at_ hlt
        have HTK := hide (show putAll ⟨[], []⟩ (l.take (i + 1)) = putP (putAll ⟨[], []⟩ (l.take i)) x by
          rw [List.take_add_one, hx]
          exact putAll_snoc _ _ _)
        have HXW := hide hxw
        have HXI := hide hx
        have HCL := hide hcl
        have hic : i < cap := by omega
        obtain ⟨p, hp⟩ : ∃ p, putAll ⟨[], []⟩ (l.take i) = p := ⟨_, rfl⟩
        rw [hp] at HB HR HTK
        clear hx hxw hcl hp
        go_wp2_with (first
          | (refine wpList_load_at rfl 32 (.tmp 36) rfl (ad.add (i * 7)) (by rfl) x.cells _ HCL.out Try.underlying32 rfl sizT ?_)
          | fail)
        refine (put_any x HXW.out _ HB.out.pool HB.out.size).mono ?_
        rintro e w3 ⟨rfl, F2, hp2, hc2, hf2⟩
        have HB2 := hide (HB.out.putp hp2 hc2 hf2)
        obtain ⟨nn, hnn⟩ : ∃ v, (putN p x).1 = v := ⟨_, rfl⟩
        obtain ⟨er, her⟩ : ∃ v, (putN p x).2 = v := ⟨_, rfl⟩
        rw [hnn, her]
        have HNN := hide hnn
        have HER := hide her
        clear hp2 hc2 hf2 hnn her HCL HB
        cases he : (er == 0)
        · go_wp2
          go_roundw
          case measure => simp [intOf]; omega
          case rel => exact ⟨i + 1, ps, ws, F2, by omega, by go_num, by rw [HTK.out]; exact HB2.out, by rw [HTK.out]; exact HR.out.bad (by rw [HER.out]; simpa using he), by omega⟩
        · have he0 : er = 0 := by simpa using he
          have HGD := hide (HR.out.good (by rw [HER.out]; exact he0))
          rw [HNN.out, ← HTK.out] at HGD
          rw [← HTK.out] at HB2
          subst he0
          obtain ⟨q, hq⟩ : ∃ q, ps.length = q := ⟨_, rfl⟩
          have HQ := hide hq
          have hqw : ws.length = q := by rw [← HR.out.len, hq]
          have HQW := hide hqw
          rw [hq] at hl
          have HRP := hide HB2.out.put
          have HRW := hide HB2.out.was
          rw [hq] at HRP
          rw [hqw] at HRW
          have hbs := HB2.out.size
          have tok1 := True.intro
          clear hq hqw
          go_upto_region 12 with (first
            | (clear tok1
               refine wpList_push2 rfl rfl 39 3 (.tmp 44) (.tmp 43) (.tmp 45) rfl rfl w.heap.size 1 8 iN _ (.int .i64 nn) u4 [.int .i64 nn] _ q Try.underlying39 IN.out.1 IN.out.2.1 IN.out.2.2.1 IN.out.2.2.2 rfl (by omega) (by omega) (by rfl) rfl rfl one_int HRP.out (by omega) (by unfold maxLen; omega) (by omega) (by rfl) (by rfl) ?_
               intro s4 w4 g4 G4 O4 B4 P4 N4
               have HB4 := hide (HB2.out.appp (ps' := ps ++ [nn]) (by rw [List.length_append, HQ.out, List.map_append]; exact O4) P4 N4)
               clear O4 B4 P4 N4 G4)
            | fail)
          obtain ⟨ad2, x2, hae, _, hx2, _, hcl⟩ := HB4.out.tms.at_ hlt
          injection hae with hae
          subst hae
          have HCL := hide hcl
          have HRW4 := hide HB4.out.was
          rw [HQW.out] at HRW4
          have HX2 := hide (show x = x2 from by
            obtain ⟨_, _, hae, _, hx3, _, _⟩ := HB2.out.tms.at_ hlt
            have h3 := HXI.out
            rw [hx2] at h3
            exact (Option.some.inj h3).symm)
          rw [← HX2.out] at HCL
          have hbs4 := HB4.out.size
          clear hx2 hcl HRP HRW HB2 hbs HX2
          have tok2 := True.intro
          go_wp2_with (first
            | (refine wpList_load_at rfl 32 (.tmp 50) rfl (ad.add (i * 7)) (by rfl) x.cells _ HCL.out Try.underlying32 rfl sizT ?_
               have tok3 := tok2
               clear tok2)
            | (clear tok3
               refine wpList_push2 rfl rfl 22 32 (.tmp 51) (.tmp 47) (.tmp 52) rfl rfl w.heap.size 7 40 iM _ (termV x) u5 x.cells _ q Try.underlying22 IM.out.1 IM.out.2.1 IM.out.2.2.1 IM.out.2.2.2 rfl (by omega) (by omega) (by rfl) rfl rfl (TD.one x) HRW4.out (by omega) (by unfold maxLen; omega) (by omega) (by rfl) (by rfl) ?_
               intro s5 w5 g5 G5 O5 B5 P5 N5
               have HB5 := hide (HB4.out.appw (ws' := ws ++ [x]) (by rw [List.length_append, HQW.out, List.flatMap_append, List.flatMap_cons, List.flatMap_nil, List.append_nil]; exact O5) P5 N5)
               clear O5 B5 P5 N5 G5)
            | fail)
          go_roundw
          case measure => simp [intOf]; omega
          case rel => exact ⟨i + 1, ps ++ [nn], ws ++ [x], F2, by omega, by go_num, HB5.out, HGD.out, by rw [List.length_append, HQ.out]; simp; omega⟩
      · obtain rfl : i = n := by omega
        have HB0 := hide (show BkF w g (putAll ⟨[], []⟩ l) A i l F u4 ps u5 ws wr by have := HB.out; rw [← HB.out.tms.1, List.take_length] at this; rw [HB.out.tms.1] at this; exact this)
        have HR0 := hide (show BackR (putAll ⟨[], []⟩ l) ps ws by have := HR.out; rw [← HB.out.tms.1, List.take_length] at this; exact this)
        clear HB HR
        obtain ⟨p, hp⟩ : ∃ p, putAll ⟨[], []⟩ l = p := ⟨_, rfl⟩
        rw [hp] at HB0 HR0
        clear hp
        obtain ⟨m, hm1⟩ : ∃ m, ps.length = m := ⟨_, rfl⟩
        have hm2 : ws.length = m := by rw [← HR0.out.len, hm1]
        obtain ⟨A4, c4, e4, _, _⟩ := (RowL.of_own HB0.out.put).slice
        obtain ⟨A5, c5, e5, _, _⟩ := (RowL.of_own HB0.out.was).slice
        rw [hm1] at e4
        rw [hm2] at e5
        subst e4 e5
        have HM1 := hide hm1
        have HM2 := hide hm2
        rw [hm1] at hl
        clear hm1 hm2
        go_wp2
        obtain ⟨wo, rfl⟩ : ∃ wo : World, wo = wr := ⟨_, rfl⟩
        go_loopw [9] (fun iv wq => ∃ (k : Nat) (F : Nat → Prop), k ≤ m ∧ iv = .int .i64 k ∧ BkF w g p A i l F (.slice A4 m c4) ps (.slice A5 m c5) ws wq) (fun iv _ => m - (intOf iv).toNat)
        case atStart => exact ⟨0, F, by omega, rfl, HB0.out⟩
        case round =>
          obtain ⟨k, F, hk, rfl, hb⟩ := hrel
          clear HB0
          have HB := hide hb
          clear hb
          by_cases hkm : k < m
          · obtain ⟨g4, g5, rfl, rfl, hc4, hc5⟩ := HB.out.form HM1.out HM2.out (by omega)
            obtain ⟨t, htk⟩ : ∃ t, ws[k]? = some t := ⟨_, List.getElem?_eq_getElem (by rw [HM2.out]; exact hkm)⟩
            obtain ⟨j, hpj, hTj⟩ := HR0.out.at_ k t htk
            have HTK := hide htk
            have HPJ := hide hpj
            have HTJ := hide hTj
            have htw := HB.out.pool.rng t (List.mem_of_getElem? hTj)
            have HTW := hide htw
            have cn := HB.out.num HM1.out hpj
            have hkc4 : k < c4 := by omega
            have hkc5 : k < c5 := by omega
            have hjl : j < p.T.length := (List.getElem?_eq_some_iff.1 hTj).1
            have hj4 := HB.out.pool.few
            clear htk hpj hTj htw
            go_wp2_with fail
            refine (get_any HB.out.pool HTJ.out).mono ?_
            rintro e w3 ⟨rfl, hb⟩
            have HB3 := hide (HB.out.step hb)
            clear hb cn HB
            go_upto_region 17 with (first
              | (refine wpList_store_new rfl 32 (.tmp 10) (.tmp 67) rfl _ t.cells (termV t) (by rfl) (by rfl) rfl sizT rfl (TD.one _) ?_
                 intro w4 G4 L4 Z4
                 have HB4 := hide (HB3.out.step L4)
                 have HX4 := hide G4
                 clear G4 L4)
              | fail)
            obtain ⟨bt, hbt⟩ : ∃ b, w3.heap.size = b := ⟨_, rfl⟩
            have HBT := hide (show ¬ F bt from fun q => by have := (HB3.out.pool.fb _ q).2; omega)
            rw [hbt] at HX4 ⊢
            have HTR := hide (HB4.out.trm HM2.out HTK.out)
            clear hbt HB3
            go_wp2_with (first
              | (refine wpList_load_at rfl 32 (.tmp 73) rfl ⟨g5, k * 7, none⟩ (by rfl) t.cells _ HTR.out Try.underlying32 rfl sizT ?_)
              | fail)
            refine (put_any t HTW.out _ HB4.out.pool HB4.out.size).mono ?_
            rintro e w5 ⟨rfl, F5, hp5, hc5, hf5⟩
            obtain ⟨hs1, hs2⟩ := put_there HB4.out.pool.wf HTJ.out
            rw [hs1] at hp5
            rw [hs2]
            have HB5 := hide (HB4.out.putp hp5 hc5 hf5)
            have HX5 := hide (hc5.blk HX4.out HBT.out)
            clear hp5 hc5 hf5 hs1 hs2 HTR HB4 HX4 HBT
            have HTR := hide (HB5.out.trm HM2.out HTK.out)
            have cn := HB5.out.num HM1.out HPJ.out
            have hneq := fun w : World => neq_tm HTW.out HTW.out w
            simp only [decide_true, Bool.not_true] at hneq
            have hj0 : decide ((j : Int) < 0) = false := by simp
            have hjl2 : decide ((p.T.length : Int) ≤ (j : Int)) = false := by simp; omega
            go_upto_region 18 with fail
            refine wp_region_quiet_lit (by kernel_rfl) (by kernel_rfl) ?_
            repeat (first
              | (refine wpQuiet_loadw (by rfl) 32 (.tmp 10) rfl ⟨bt, 0, none⟩ (by rfl) t.cells _ (blk_list HX5.out) Try.underlying32 rfl sizT ?_
                 go_simp)
              | (refine wpQuiet_loadw (by rfl) 32 (.tmp 88) rfl ⟨g5, k * 7, none⟩ (by rfl) t.cells _ HTR.out Try.underlying32 rfl sizT ?_
                 go_simp)
              | go_big_quiet_step ((go_at_call 11; exact Calls.quiet_of_same ((len_any (HB5.out.pool.below (below_drewN (Below.refl _ _) _))).mono fun _ _ h => ⟨h.1, h.2.symm⟩))))
            refine wpQuiet_nil ?_
            first
              | (intro wq hwq; obtain ⟨nq, rfl⟩ := hwq)
              | intro nq
            replace HB5 := hide (HB5.out.step (below_drewN (Below.refl _ _) nq))
            replace HX5 := hide (HX5.out.drewN nq)
            generalize w5.drewN nq = w6 at HB5 HX5 ⊢
            clear HTR cn hneq
            have b0 := HX5.out.cell 0
            simp [TD.cells] at b0
            obtain ⟨pb, hpb⟩ : ∃ v, partsB t = v := ⟨_, rfl⟩
            have HPB := hide hpb
            clear hpb
            go_upto_region 20 with fail
            go_cut [14] from 116 to 133 (fun x wc => x = .bool pb ∧ wc = w6)
            case first =>
              as_aux_lemma =>
                have HP2 := hide (show (t.kind == 2 || (t.kind == 4 || (t.kind == 3 || t.kind == 5))) = pb from HPB.out)
                cases h2 : (t.kind == 2)
                · cases h4 : (t.kind == 4)
                  · cases h3 : (t.kind == 3)
                    · cases h5 : (t.kind == 5)
                      all_goals
                        go_wp2
                        go_meet
                        case rel => exact ⟨by rw [← HP2.out, h2, h4, h3, h5]; rfl, rfl⟩
                    · go_wp2
                      go_meet
                      case rel => exact ⟨by rw [← HP2.out, h2, h4, h3]; rfl, rfl⟩
                  · go_wp2
                    go_meet
                    case rel => exact ⟨by rw [← HP2.out, h2, h4]; rfl, rfl⟩
                · go_wp2
                  go_meet
                  case rel => exact ⟨by rw [← HP2.out, h2]; rfl, rfl⟩
            case rest =>
              obtain ⟨rfl, rfl⟩ := hcut
              clear b0
              have cn := HB5.out.num HM1.out HPJ.out
              have b4 := HX5.out.cell 4
              have b5 := HX5.out.cell 5
              have b6 := HX5.out.cell 6
              simp [TD.cells] at b4 b5 b6
              have HPL := hide (fun q : partsB t = true => parts_lt q (HB5.out.pool.wf.ok j t HTJ.out) (HB5.out.pool.wf.part j t HTJ.out))
              go_upto_region 21 with fail
              go_cut [161] from 134 to 161 (fun x wx => x = .bool false ∧ ∃ nq, wx = wc.drewN nq)
              case first =>
                as_aux_lemma =>
                  cases pb
                  · refine wp_region_quiet_lit (by kernel_rfl) (by kernel_rfl) ?_
                    repeat (first | go_big_quiet_step (fail) | quiet_step (fail))
                    refine wpQuiet_nil ?_
                    first
                      | (intro wq hwq; obtain ⟨nq, rfl⟩ := hwq)
                      | intro nq
                    go_wp2
                    go_meet
                    case rel => exact ⟨rfl, nq, rfl⟩
                  · obtain ⟨ha, hb, hc⟩ := HPL.out HPB.out
                    have ha2 : decide ((j : Int) ≤ t.a) = false := by simp; omega
                    have hb2 : decide ((j : Int) ≤ t.b) = false := by simp; omega
                    have hc2 : decide ((j : Int) ≤ t.c) = false := by simp; omega
                    refine wp_region_quiet_lit (by kernel_rfl) (by kernel_rfl) ?_
                    repeat (first | go_big_quiet_step (fail) | quiet_step (fail))
                    refine wpQuiet_nil ?_
                    first
                      | (intro wq hwq; obtain ⟨nq, rfl⟩ := hwq)
                      | intro nq
                    go_wp2
                    go_meet
                    case rel => exact ⟨rfl, nq, rfl⟩
              case rest =>
                obtain ⟨rfl, nq, rfl⟩ := hcut
                replace HB5 := hide (HB5.out.step (below_drewN (Below.refl _ _) nq))
                replace HX5 := hide (HX5.out.drewN nq)
                generalize wc.drewN nq = w7 at HB5 HX5 ⊢
                clear cn b4 b5 b6 HPL HPB
                have cn := HB5.out.num HM1.out HPJ.out
                go_wp2_with fail
                refine (vars_any _ HB5.out.pool hjl).mono ?_
                rintro e w8 ⟨sv8, lv, rfl, hiv, hnv, hl8, hb8⟩
                have HNV0 := hide hnv
                obtain ⟨A8, c8, rfl, hc8, _, _⟩ := hnv
                have HNV := hide (show NumsAt w8 w7.heap.size (.slice A8 lv.length c8) lv from HNV0.out)
                have HIV := hide hiv
                replace HB5 := hide (HB5.out.step hb8)
                replace HX5 := hide (HX5.out.below hb8 HX5.out.lt)
                clear hiv hb8 HNV0 cn
                obtain ⟨q8, hq8⟩ : ∃ q, lv.length = q := ⟨_, rfl⟩
                have HQ8 := hide hq8
                rw [hq8] at HNV hc8 hl8 ⊢
                clear hq8
                have b0 := HX5.out.cell 0
                have b3 := HX5.out.cell 3
                have b4 := HX5.out.cell 4
                simp [TD.cells] at b0 b3 b4
                go_upto_region 24 with fail
                go_cut [209] from 168 to 209 (fun x wx => x = .bool false ∧ BkF w g p A i l F5 (.slice (some ⟨g4, 0, none⟩) m c4) ps (.slice (some ⟨g5, 0, none⟩) m c5) ws wx)
                case first =>
                  cases k1 : (t.kind == 1)
                  · cases k0 : (t.kind == 0)
                    · cases k3 : (t.kind == 3)
                      · as_aux_lemma =>
                          refine wp_region_quiet_lit (by kernel_rfl) (by kernel_rfl) ?_
                          repeat (first | go_big_quiet_step (fail) | quiet_step (fail))
                          refine wpQuiet_nil ?_
                          first
                            | (intro wq hwq; obtain ⟨nq, rfl⟩ := hwq)
                            | intro nq
                          go_wp2
                          go_meet
                          case rel => exact ⟨rfl, HB5.out.step (below_drewN (Below.refl _ _) nq)⟩
                      · as_aux_lemma =>
                          have hk : t.kind = 3 := by simpa using k3
                          have hpa := HB5.out.pool.wf.part j t HTJ.out t.a (by unfold prtL; rw [if_neg (by omega), if_pos hk]; simp)
                          obtain ⟨a1, ha1⟩ := Int.eq_ofNat_of_zero_le hpa.1
                          have HZ := hide (HIV.out.zext HTJ.out hk ha1)
                          have hal : a1 < p.T.length := by omega
                          have HA4 := hide (show (t.cells.toArray)[4]? = some (.int .i64 (a1 : Nat)) by rw [← ha1]; rfl)
                          clear ha1 hpa hk b4
                          -- KIND3
                          refine wp_region_E (fun w' => BkF w g p A i l F5 (.slice (some ⟨g4, 0, none⟩) m c4) ps (.slice (some ⟨g5, 0, none⟩) m c5) ws w' ∧ Blk w' bt 32 t.cells.toArray) (fun _ => True) [] (by kernel_rfl) ?_
                          replace HB5 := hide (HB5.out.step ((Below.refl _ _).drew))
                          replace HX5 := hide HX5.out.drew
                          generalize w8.drew = w9 at HB5 HX5 ⊢
                          clear b0 b3 HNV HIV
                          refine E_field 0 (some 168) 32 (.tmp 10) 0 ⟨bt, 0, none⟩ ⟨bt, 0, none⟩ rfl (by kernel_rfl) (by rfl) (fun _ _ _ h => h) (by rfl) (tfld0 bt) (.both (And.intro HB5.out HX5.out) trivial) ?_
                          simp only [Act.put, List.setIfInBounds_toArray, List.set_cons_zero, List.set_cons_succ]
                          refine E_load1 false 1 (some 169) 29 (.tmp 168) ⟨bt, 0, none⟩ (.int .i8 t.kind) rfl (by kernel_rfl) (by rfl) (fun _ _ _ h => h) (by rfl) (fun w hS => run_loadVar_one _ _ _ _ Try.underlying29 rfl (hS.1.2.cell 0)) (.both (And.intro HB5.out HX5.out) trivial) ?_
                          simp only [Act.put, List.setIfInBounds_toArray, List.set_cons_zero, List.set_cons_succ]
                          refine E_any false 2 (some 170) (.binOp .eql 29 (.tmp 169) (.const (.int .i8 1)) 29) (.bool false) rfl (by kernel_rfl) (by rfl) (fun _ _ _ h => h) (fun o e w _ => by unfold execOp; simp only [e]; go_simp) (.both (And.intro HB5.out HX5.out) trivial) ?_
                          simp only [Act.put, List.setIfInBounds_toArray, List.set_cons_zero, List.set_cons_succ]
                          refine E_move 3 (some 171) (.tmp 170) (.bool false) rfl (by kernel_rfl) (by rfl) (fun _ _ _ h => h) (by rfl) (.both (And.intro HB5.out HX5.out) trivial) ?_
                          simp only [Act.put, List.setIfInBounds_toArray, List.set_cons_zero, List.set_cons_succ]
                          refine E_not 4 (some 172) (.move (.tmp 15)) rfl (by kernel_rfl) (by rfl) (fun _ _ _ h => h) (.both (And.intro HB5.out HX5.out) trivial) ?_
                          simp only [Act.put, List.setIfInBounds_toArray, List.set_cons_zero, List.set_cons_succ]
                          refine E_not 5 (some 173) (.call { callee := .builtin .len, args := #[.tmp 172], argTypes := #[39] }) rfl (by kernel_rfl) (by rfl) (fun _ _ _ h => h) (.both (And.intro HB5.out HX5.out) trivial) ?_
                          simp only [Act.put, List.setIfInBounds_toArray, List.set_cons_zero, List.set_cons_succ]
                          refine E_not 6 (some 174) (.binOp .neq 3 (.tmp 173) (.const (.int .i64 1)) 3) rfl (by kernel_rfl) (by rfl) (fun _ _ _ h => h) (.both (And.intro HB5.out HX5.out) trivial) ?_
                          simp only [Act.put, List.setIfInBounds_toArray, List.set_cons_zero, List.set_cons_succ]
                          refine E_not 7 (some 175) (.move (.tmp 174)) rfl (by kernel_rfl) (by rfl) (fun _ _ _ h => h) (.both (And.intro HB5.out HX5.out) trivial) ?_
                          simp only [Act.put, List.setIfInBounds_toArray, List.set_cons_zero, List.set_cons_succ]
                          refine E_not 8 (some 176) (.move (.tmp 15)) rfl (by kernel_rfl) (by rfl) (fun _ _ _ h => h) (.both (And.intro HB5.out HX5.out) trivial) ?_
                          simp only [Act.put, List.setIfInBounds_toArray, List.set_cons_zero, List.set_cons_succ]
                          refine E_not 9 (some 177) (.indexAddr 39 (.tmp 176) (.const (.int .i64 0))) rfl (by kernel_rfl) (by rfl) (fun _ _ _ h => h) (.both (And.intro HB5.out HX5.out) trivial) ?_
                          simp only [Act.put, List.setIfInBounds_toArray, List.set_cons_zero, List.set_cons_succ]
                          refine E_not 10 (some 178) (.load 3 (.tmp 177)) rfl (by kernel_rfl) (by rfl) (fun _ _ _ h => h) (.both (And.intro HB5.out HX5.out) trivial) ?_
                          simp only [Act.put, List.setIfInBounds_toArray, List.set_cons_zero, List.set_cons_succ]
                          refine E_not 11 (some 179) (.fieldAddr 32 (.tmp 10) 3) rfl (by kernel_rfl) (by rfl) (fun _ _ _ h => h) (.both (And.intro HB5.out HX5.out) trivial) ?_
                          simp only [Act.put, List.setIfInBounds_toArray, List.set_cons_zero, List.set_cons_succ]
                          refine E_not 12 (some 180) (.load 30 (.tmp 179)) rfl (by kernel_rfl) (by rfl) (fun _ _ _ h => h) (.both (And.intro HB5.out HX5.out) trivial) ?_
                          simp only [Act.put, List.setIfInBounds_toArray, List.set_cons_zero, List.set_cons_succ]
                          refine E_not 13 (some 181) (.convert 30 3 (.tmp 180)) rfl (by kernel_rfl) (by rfl) (fun _ _ _ h => h) (.both (And.intro HB5.out HX5.out) trivial) ?_
                          simp only [Act.put, List.setIfInBounds_toArray, List.set_cons_zero, List.set_cons_succ]
                          refine E_not 14 (some 182) (.binOp .neq 3 (.tmp 178) (.tmp 181) 3) rfl (by kernel_rfl) (by rfl) (fun _ _ _ h => h) (.both (And.intro HB5.out HX5.out) trivial) ?_
                          simp only [Act.put, List.setIfInBounds_toArray, List.set_cons_zero, List.set_cons_succ]
                          refine E_not 15 (some 183) (.pick (.tmp 175) (.const (.bool true)) (.tmp 182)) rfl (by kernel_rfl) (by rfl) (fun _ _ _ h => h) (.both (And.intro HB5.out HX5.out) trivial) ?_
                          simp only [Act.put, List.setIfInBounds_toArray, List.set_cons_zero, List.set_cons_succ]
                          refine E_pick 16 (some 184) (.tmp 171) (.tmp 183) (.const (.bool false)) false (.bool false) rfl (by kernel_rfl) (by rfl) (fun _ _ _ h => h) (by rfl) (by rfl) (.both (And.intro HB5.out HX5.out) trivial) ?_
                          simp only [Act.put, List.setIfInBounds_toArray, List.set_cons_zero, List.set_cons_succ]
                          refine E_move 17 (some 185) (.tmp 184) (.bool false) rfl (by kernel_rfl) (by rfl) (fun _ _ _ h => h) (by rfl) (.both (And.intro HB5.out HX5.out) trivial) ?_
                          simp only [Act.put, List.setIfInBounds_toArray, List.set_cons_zero, List.set_cons_succ]
                          refine E_field 18 (some 186) 32 (.tmp 10) 0 ⟨bt, 0, none⟩ ⟨bt, 0, none⟩ rfl (by kernel_rfl) (by rfl) (fun _ _ _ h => h) (by rfl) (tfld0 bt) (.both (And.intro HB5.out HX5.out) trivial) ?_
                          simp only [Act.put, List.setIfInBounds_toArray, List.set_cons_zero, List.set_cons_succ]
                          refine E_load1 false 19 (some 187) 29 (.tmp 186) ⟨bt, 0, none⟩ (.int .i8 t.kind) rfl (by kernel_rfl) (by rfl) (fun _ _ _ h => h) (by rfl) (fun w hS => run_loadVar_one _ _ _ _ Try.underlying29 rfl (hS.1.2.cell 0)) (.both (And.intro HB5.out HX5.out) trivial) ?_
                          simp only [Act.put, List.setIfInBounds_toArray, List.set_cons_zero, List.set_cons_succ]
                          refine E_any false 20 (some 188) (.binOp .eql 29 (.tmp 187) (.const (.int .i8 0)) 29) (.bool false) rfl (by kernel_rfl) (by rfl) (fun _ _ _ h => h) (fun o e w _ => by unfold execOp; simp only [e]; go_simp) (.both (And.intro HB5.out HX5.out) trivial) ?_
                          simp only [Act.put, List.setIfInBounds_toArray, List.set_cons_zero, List.set_cons_succ]
                          refine E_move 21 (some 189) (.tmp 188) (.bool false) rfl (by kernel_rfl) (by rfl) (fun _ _ _ h => h) (by rfl) (.both (And.intro HB5.out HX5.out) trivial) ?_
                          simp only [Act.put, List.setIfInBounds_toArray, List.set_cons_zero, List.set_cons_succ]
                          refine E_not 22 (some 190) (.move (.tmp 15)) rfl (by kernel_rfl) (by rfl) (fun _ _ _ h => h) (.both (And.intro HB5.out HX5.out) trivial) ?_
                          simp only [Act.put, List.setIfInBounds_toArray, List.set_cons_zero, List.set_cons_succ]
                          refine E_not 23 (some 191) (.call { callee := .builtin .len, args := #[.tmp 190], argTypes := #[39] }) rfl (by kernel_rfl) (by rfl) (fun _ _ _ h => h) (.both (And.intro HB5.out HX5.out) trivial) ?_
                          simp only [Act.put, List.setIfInBounds_toArray, List.set_cons_zero, List.set_cons_succ]
                          refine E_not 24 (some 192) (.binOp .neq 3 (.tmp 191) (.const (.int .i64 0)) 3) rfl (by kernel_rfl) (by rfl) (fun _ _ _ h => h) (.both (And.intro HB5.out HX5.out) trivial) ?_
                          simp only [Act.put, List.setIfInBounds_toArray, List.set_cons_zero, List.set_cons_succ]
                          refine E_pick 25 (some 193) (.tmp 189) (.tmp 192) (.const (.bool false)) false (.bool false) rfl (by kernel_rfl) (by rfl) (fun _ _ _ h => h) (by rfl) (by rfl) (.both (And.intro HB5.out HX5.out) trivial) ?_
                          simp only [Act.put, List.setIfInBounds_toArray, List.set_cons_zero, List.set_cons_succ]
                          refine E_pick 26 (some 194) (.tmp 185) (.const (.bool true)) (.tmp 193) false (.bool false) rfl (by kernel_rfl) (by rfl) (fun _ _ _ h => h) (by rfl) (by rfl) (.both (And.intro HB5.out HX5.out) trivial) ?_
                          simp only [Act.put, List.setIfInBounds_toArray, List.set_cons_zero, List.set_cons_succ]
                          refine E_move 27 (some 195) (.tmp 194) (.bool false) rfl (by kernel_rfl) (by rfl) (fun _ _ _ h => h) (by rfl) (.both (And.intro HB5.out HX5.out) trivial) ?_
                          simp only [Act.put, List.setIfInBounds_toArray, List.set_cons_zero, List.set_cons_succ]
                          refine E_field 28 (some 196) 32 (.tmp 10) 0 ⟨bt, 0, none⟩ ⟨bt, 0, none⟩ rfl (by kernel_rfl) (by rfl) (fun _ _ _ h => h) (by rfl) (tfld0 bt) (.both (And.intro HB5.out HX5.out) trivial) ?_
                          simp only [Act.put, List.setIfInBounds_toArray, List.set_cons_zero, List.set_cons_succ]
                          refine E_load1 false 29 (some 197) 29 (.tmp 196) ⟨bt, 0, none⟩ (.int .i8 t.kind) rfl (by kernel_rfl) (by rfl) (fun _ _ _ h => h) (by rfl) (fun w hS => run_loadVar_one _ _ _ _ Try.underlying29 rfl (hS.1.2.cell 0)) (.both (And.intro HB5.out HX5.out) trivial) ?_
                          simp only [Act.put, List.setIfInBounds_toArray, List.set_cons_zero, List.set_cons_succ]
                          refine E_any false 30 (some 198) (.binOp .eql 29 (.tmp 197) (.const (.int .i8 3)) 29) (.bool true) rfl (by kernel_rfl) (by rfl) (fun _ _ _ h => h) (fun o e w _ => by unfold execOp; simp only [e]; go_simp) (.both (And.intro HB5.out HX5.out) trivial) ?_
                          simp only [Act.put, List.setIfInBounds_toArray, List.set_cons_zero, List.set_cons_succ]
                          refine E_move 31 (some 199) (.tmp 198) (.bool true) rfl (by kernel_rfl) (by rfl) (fun _ _ _ h => h) (by rfl) (.both (And.intro HB5.out HX5.out) trivial) ?_
                          simp only [Act.put, List.setIfInBounds_toArray, List.set_cons_zero, List.set_cons_succ]
                          refine E_move 32 (some 200) (.tmp 15) (.slice A8 q8 c8) rfl (by kernel_rfl) (by rfl) (fun _ _ _ h => h) (by rfl) (.both (And.intro HB5.out HX5.out) trivial) ?_
                          simp only [Act.put, List.setIfInBounds_toArray, List.set_cons_zero, List.set_cons_succ]
                          refine E_any false 33 (some 201) (.call { callee := .builtin .len, args := #[.tmp 200], argTypes := #[39] }) (.int .i64 q8) rfl (by kernel_rfl) (by rfl) (fun _ _ _ h => h) (fun o e w _ => by unfold execOp; simp only [e]; go_simp) (.both (And.intro HB5.out HX5.out) trivial) ?_
                          simp only [Act.put, List.setIfInBounds_toArray, List.set_cons_zero, List.set_cons_succ]
                          refine E_move 34 (some 202) (.tmp 3) (.pointer (some ⟨g, 0, none⟩)) rfl (by kernel_rfl) (by rfl) (fun _ _ _ h => h) (by rfl) (.both (And.intro HB5.out HX5.out) trivial) ?_
                          simp only [Act.put, List.setIfInBounds_toArray, List.set_cons_zero, List.set_cons_succ]
                          refine E_field 35 (some 203) 32 (.tmp 10) 4 ⟨bt, 0, none⟩ ⟨bt, 4, none⟩ rfl (by kernel_rfl) (by rfl) (fun _ _ _ h => h) (by rfl) (tfld4 bt) (.both (And.intro HB5.out HX5.out) trivial) ?_
                          simp only [Act.put, List.setIfInBounds_toArray, List.set_cons_zero, List.set_cons_succ]
                          refine E_load1 false 36 (some 204) 3 (.tmp 203) ⟨bt, 4, none⟩ (.int .i64 a1) rfl (by kernel_rfl) (by rfl) (fun _ _ _ h => h) (by rfl) (fun w hS => run_loadVar_one _ _ _ _ Try.underlying3 rfl ((hS.1.2.cell 4).trans HA4.out)) (.both (And.intro HB5.out HX5.out) trivial) ?_
                          simp only [Act.put, List.setIfInBounds_toArray, List.set_cons_zero, List.set_cons_succ]
                          refine E_one 37 (by kernel_rfl) (StepE.of 37 (some 205) _ rfl (by rfl) fun o K h2 h3 hKK => ?_)
                          unfold Oper.wp execOp
                          simp only [h3]
                          go_simp
                          refine (vars_any _ HB5.out.pool hal).mono ?_
                          rintro e w10 ⟨s9, l9, rfl, h91, ⟨A9, c9, rfl, hc9, _, _⟩, _, h92⟩
                          obtain rfl := HZ.out.uniq h91
                          replace HB5 := hide (HB5.out.step h92)
                          replace HX5 := hide (HX5.out.below h92 HX5.out.lt)
                          rw [HQ8.out]
                          clear h91 h92
                          dsimp only
                          refine hKK _ _ (.both (And.intro HB5.out HX5.out) trivial) ?_
                          clear hKK h2 h3 K o
                          try simp only [Act.put, List.setIfInBounds_toArray, List.set_cons_zero, List.set_cons_succ]
                          refine E_any false 38 (some 206) (.call { callee := .builtin .len, args := #[.tmp 205], argTypes := #[39] }) (.int .i64 q8) rfl (by kernel_rfl) (by rfl) (fun _ _ _ h => h) (fun o e w _ => by unfold execOp; simp only [e]; go_simp) (.both (And.intro HB5.out HX5.out) trivial) ?_
                          simp only [Act.put, List.setIfInBounds_toArray, List.set_cons_zero, List.set_cons_succ]
                          refine E_any false 39 (some 207) (.binOp .neq 3 (.tmp 201) (.tmp 206) 3) (.bool false) rfl (by kernel_rfl) (by rfl) (fun _ _ _ h => h) (fun o e w _ => by unfold execOp; simp only [e]; go_simp) (.both (And.intro HB5.out HX5.out) trivial) ?_
                          simp only [Act.put, List.setIfInBounds_toArray, List.set_cons_zero, List.set_cons_succ]
                          refine E_pick 40 (some 208) (.tmp 199) (.tmp 207) (.const (.bool false)) true (.bool false) rfl (by kernel_rfl) (by rfl) (fun _ _ _ h => h) (by rfl) (by rfl) (.both (And.intro HB5.out HX5.out) trivial) ?_
                          simp only [Act.put, List.setIfInBounds_toArray, List.set_cons_zero, List.set_cons_succ]
                          refine E_pick 41 (some 209) (.tmp 195) (.const (.bool true)) (.tmp 208) false (.bool false) rfl (by kernel_rfl) (by rfl) (fun _ _ _ h => h) (by rfl) (by rfl) (.both (And.intro HB5.out HX5.out) trivial) ?_
                          simp only [Act.put, List.setIfInBounds_toArray, List.set_cons_zero, List.set_cons_succ]
                          refine wpAnyE_done (by kernel_rfl) ?_ _
                          go_wp2
                          go_meet
                          case rel => exact ⟨rfl, HB5.out⟩
                    · as_aux_lemma =>
                        have hk : t.kind = 0 := by simpa using k0
                        have k3 : (t.kind == 3) = false := by simp [hk]
                        have hq0 : q8 = 0 := by rw [← HQ8.out, HIV.out.const HTJ.out hk]; rfl
                        subst hq0
                        refine wp_region_quiet_lit (by kernel_rfl) (by kernel_rfl) ?_
                        repeat (first | go_big_quiet_step (fail) | quiet_step (fail))
                        refine wpQuiet_nil ?_
                        first
                          | (intro wq hwq; obtain ⟨nq, rfl⟩ := hwq)
                          | intro nq
                        go_wp2
                        go_meet
                        case rel => exact ⟨rfl, HB5.out.step (below_drewN (Below.refl _ _) nq)⟩
                  · as_aux_lemma =>
                      have hk : t.kind = 1 := by simpa using k1
                      have k0 : (t.kind == 0) = false := by simp [hk]
                      have k3 : (t.kind == 3) = false := by simp [hk]
                      have hlv := HIV.out.var HTJ.out hk
                      have hq1 : q8 = 1 := by rw [← HQ8.out, hlv]; rfl
                      subst hq1
                      obtain ⟨ad8, x8, rfl, _, hx8, _, _, hc⟩ := HNV.out.at_ (k := 0) (by omega)
                      rw [hlv] at hx8
                      simp [vnum_w] at hx8
                      subst hx8
                      simp [Addr.add] at hc
                      clear hlv
                      refine wp_region_quiet_lit (by kernel_rfl) (by kernel_rfl) ?_
                      repeat (first | go_big_quiet_step (fail) | quiet_step (fail))
                      refine wpQuiet_nil ?_
                      first
                        | (intro wq hwq; obtain ⟨nq, rfl⟩ := hwq)
                        | intro nq
                      go_wp2
                      go_meet
                      case rel => exact ⟨rfl, HB5.out.step (below_drewN (Below.refl _ _) nq)⟩
                case rest =>
                  obtain ⟨rfl, hb9⟩ := hcut
                  replace HB5 := hide hb9
                  clear HX5 b0 b3 b4 HNV HIV HQ8 hl8 hb9
                  go_wp2
                  obtain ⟨wp, rfl⟩ : ∃ wo : World, wo = wc := ⟨_, rfl⟩
                  go_loopw [16] (fun iv wq => ∃ (k3 : Nat), k3 ≤ k ∧ iv = .int .i64 k3 ∧ BkF w g p A i l F5 (.slice (some ⟨g4, 0, none⟩) m c4) ps (.slice (some ⟨g5, 0, none⟩) m c5) ws wq) (fun iv _ => k - (intOf iv).toNat)
                  case atStart => exact ⟨0, by omega, rfl, HB5.out⟩
                  case round =>
                    obtain ⟨k3, hk3, rfl, hb⟩ := hrel
                    clear HB5
                    have HB5 := hide hb
                    clear hb
                    by_cases hk3k : k3 < k
                    · obtain ⟨t3, htk3⟩ : ∃ t, ws[k3]? = some t := ⟨_, List.getElem?_eq_getElem (by rw [HM2.out]; omega)⟩
                      obtain ⟨j3, hpj3, hTj3⟩ := HR0.out.at_ k3 t3 htk3
                      have htw3 := HB5.out.pool.rng t3 (List.mem_of_getElem? hTj3)
                      have hjt : ((j3 : Int) == (j : Int)) = decide (t3 = t) := by
                        rw [Bool.eq_iff_iff]
                        simp only [beq_iff_eq, decide_eq_true_eq]
                        constructor
                        · intro e
                          obtain rfl : j3 = j := by omega
                          have := HTJ.out
                          rw [hTj3] at this
                          exact Option.some.inj this
                        · rintro rfl
                          rw [HB5.out.pool.wf.once j3 j t3 hTj3 HTJ.out]
                      have cn3 := HB5.out.num HM1.out hpj3
                      have cn := HB5.out.num HM1.out HPJ.out
                      have HT3 := hide (HB5.out.trm HM2.out htk3)
                      have HTR := hide (HB5.out.trm HM2.out HTK.out)
                      have heql := fun w : World => eql_tm htw3 HTW.out w
                      obtain ⟨bq, hbq⟩ : ∃ b, decide (t3 = t) = b := ⟨_, rfl⟩
                      rw [hbq] at hjt
                      simp only [hbq] at heql
                      have hkc43 : k3 < c4 := by omega
                      have hkc53 : k3 < c5 := by omega
                      have hk3m : k3 < m := by omega
                      clear htk3 hpj3 hTj3 htw3 hbq
                      go_wp2
                      refine wp_region_quiet_lit (by kernel_rfl) (by kernel_rfl) ?_
                      repeat (first
                        | (refine wpQuiet_load rfl 32 (.tmp 226) rfl ⟨g5, k3 * 7, none⟩ (by rfl) t3.cells _ HT3.out Try.underlying32 rfl sizT ?_
                           go_simp)
                        | (refine wpQuiet_load rfl 32 (.tmp 230) rfl ⟨g5, k * 7, none⟩ (by rfl) t.cells _ HTR.out Try.underlying32 rfl sizT ?_
                           go_simp)
                        | go_big_quiet_step (fail))
                      refine wpQuiet_nil ?_
                      first
                        | (intro wq hwq; obtain ⟨nq, rfl⟩ := hwq)
                        | intro nq
                      replace HB5 := hide (HB5.out.step (below_drewN (Below.refl _ _) nq))
                      generalize wr.drewN nq = w9 at HB5 ⊢
                      clear heql cn3 cn HT3 HTR hjt
                      cases bq
                      all_goals
                        go_wp2
                        go_roundw
                        case measure => simp [intOf]; omega
                        case rel => exact ⟨k3 + 1, by omega, by go_num, HB5.out⟩
                    · go_wp2
                      exact ⟨⟨k + 1, F5, by omega, by go_num, HB5.out⟩, by simp [intOf]; omega⟩
          · obtain rfl : k = m := by omega
            have hlk : p.T.length ≤ k := by have := HR0.out.few; rw [HM1.out] at this; exact this
            go_wp2_with fail
            refine (len_any HB.out.pool).mono ?_
            rintro e w3 ⟨rfl, rfl⟩
            go_wp2_with fail
            refine (wakes_any _).mono ?_
            rintro e w4 ⟨rfl, hb4⟩
            have HBW := hide (HB.out.below.trans (hb4.mono HB.out.size))
            clear hb4 HB
            go_wp2
            go_ret
            exact ⟨rfl, HBW.out⟩
end Go.Proofs.Ytafbjcnonhpldaa
