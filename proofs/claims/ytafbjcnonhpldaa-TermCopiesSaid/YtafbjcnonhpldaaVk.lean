/-
  Contract: the function within Vars that calls itself. Conditions: those written in each statement.
-/
import Derived.Test.YtafbjcnonhpldaaPu
import Derived.Test.YtafbjcnonhpldaaSo
import Derived.Test.YtafbjcnonhpldaaMie
import Derived.IntWalk
namespace Go.Proofs.Ytafbjcnonhpldaa
open Go.RowKit
set_option linter.unusedVariables false
set_option linter.unusedSimpArgs false
abbrev wkV (gs gp go gw : Nat) : Value := .func (.func 21) #[] #[.pointer (some ⟨gs, 0, none⟩), .pointer (some ⟨gp, 0, none⟩), .pointer (some ⟨go, 0, none⟩), .pointer (some ⟨gw, 0, none⟩)]
theorem zeroBo : ∀ w : World, (zeroValue 4).run Try.prog w = .ok (.bool false) w := fun w => by kernel_rfl
def seenF (L : List Nat) (x : Int) : Option Value := if x ∈ L.map (fun i : Nat => (i : Int)) then some (.bool true) else none
theorem mem_cast {L : List Nat} {n : Nat} : (n : Int) ∈ L.map (fun i : Nat => (i : Int)) ↔ n ∈ L := by
  rw [List.mem_map]
  constructor
  · rintro ⟨i, hi, e⟩
    obtain rfl : i = n := by omega
    exact hi
  · exact fun h => ⟨n, h, rfl⟩
theorem seenF_put (L : List Nat) (n : Nat) (x : Int) : seenF (L ++ [n]) x = putF (seenF L) (n : Int) (.bool true) x := by
  unfold seenF putF
  by_cases e : x = (n : Int)
  · simp [e]
  · simp [e]
section
variable {P : Program}
/-- out = append(out, v), and where it lies. -/
theorem wpList_push2 {ops : Array Oper} {rest : List Oper} {o1 o2 : Oper} {a : Act} {w : World} {Q : Exit → Act → World → Prop} (hg1 : o1.guard = none) (hg2 : o2.guard = none) (t e : TypeId) (x s y : Operand)
    (ho1 : o1.op = .buildSlice t 1 #[(0, x)]) (ho2 : o2.op = .call { callee := .builtin .append, args := #[s, y], argTypes := #[t, t] })
    (base size bytes : Nat) (i0 : TypeInfo) (z v sv : Value) (cs xs : List Value) (n : Nat) (ht : P.underlying t = some (.slice e)) (hi : P.info? e = some i0) (hz : i0.zero = some z) (hs : i0.size = size) (hb : i0.bytes = bytes)
    (hzs : z.cells.size = size) (h0 : 0 < size) (hs0 : size ≤ 1024) (hx : a.eval x = v) (hcs : v.cells = cs.toArray) (hvs : cs.length = size) (h1 : ∀ u ∈ cs, u.oneCell' = true)
    (hown : w.ownsRow base e size sv n xs) (hbase : base ≤ w.heap.size) (h63 : n + 1 ≤ maxLen) (hbytes : (n + 1) * bytes ≤ 140737488355328)
    (hsv : (a.put o1.dst (.slice (some ⟨w.heap.size, 0, none⟩) 1 1)).eval s = sv) (hy : (a.put o1.dst (.slice (some ⟨w.heap.size, 0, none⟩) 1 1)).eval y = .slice (some ⟨w.heap.size, 0, none⟩) 1 1)
    (h : ∀ v' w' g, w.heap.size ≤ g → w'.ownsRow base e size v' (n + 1) (xs ++ cs) → Below base w w' → w.grownBy w' sv.ownBlock → (∀ b, v'.ownBlock = some b → sv.ownBlock = some b ∨ w.heap.size ≤ b) → wpList P ops Q rest ((a.put o1.dst (.slice (some ⟨g, 0, none⟩) 1 1)).put o2.dst v') w') : wpList P ops Q (o1 :: o2 :: rest) a w := by
  subst hs hb
  refine wpList_plain hg1 fun K hK => ?_
  unfold Oper.wp execOp
  have hrun := run_buildSlice_one (P := P) w t e i0 z v ht hi hz hs0 h0 (by rw [hcs]; simpa using hvs)
  simp only [ho1, Sem.run_bind, List.map_toArray, List.map_cons, List.map_nil, hx, hrun, Result.andThen_ok, Sem.run_pure]
  refine hK _ _ ?_
  have hown' := hown.alloc (Obj.cells v.cells e)
  have hnew : Reads (w.alloc (.cells v.cells e)) (w.heap.size + 1) i0.size (some ⟨w.heap.size, 0, none⟩) 1 cs := by
    refine ⟨by omega, fun _ => ⟨_, rfl, Nat.lt_succ_self _, fun j u hu => ?_⟩⟩
    rw [show (⟨w.heap.size, 0, none⟩ : Addr).add j = ⟨w.heap.size, j, none⟩ from by unfold Addr.add; split <;> simp_all]
    rw [(Blk.new w e v.cells).cell j, hcs]
    simpa using hu
  refine wpList_append_any _ hg2 s y t ho2 base e i0 z i0.size i0.bytes ht hi hz rfl rfl hzs h0 sv n xs hsv hown' _ _ 1 1 cs hy hnew h1 h63 hbytes (by simp; omega) fun v' w' q1 q2 q3 => ?_
  have hgr : w.grownBy w' sv.ownBlock := (World.grownBy_alloc w _ sv.ownBlock).trans q2
  exact h v' w' _ (Nat.le_refl _) q1 ((Below.refl _ _).grown hgr hbase (fun g hg => by
    rcases hown.2 with ⟨hsv0, _⟩ | ⟨g', cap, cur, hsv0, hg', _⟩
    · rw [hsv0] at hg; simp [Value.ownBlock] at hg
    · rw [hsv0] at hg; simp [Value.ownBlock] at hg; omega)) hgr fun b hb => by
    rcases q3 with e | e
    · exact .inl (e ▸ hb)
    · rw [e] at hb
      injection hb with hb
      simp at hb
      exact .inr (by omega)
end
section
variable {P : Program}
/-- One cell of a block is stored, at the operation. -/
theorem wpList_store_cell {ops : Array Oper} {rest : List Oper} {o : Oper} {a : Act} {w : World} {Q : Exit → Act → World → Prop} (hgd : o.guard = none) (ty : TypeId) (x y : Operand) (ho : o.op = .store ty x y) (g j : Nat) (v : Value)
    (hx : a.eval x = .pointer (some ⟨g, j, none⟩)) (hy : a.eval y = v) (hr : (storeVar ty ⟨g, j, none⟩ v).run P w = .ok () (w.setCell ⟨g, j, none⟩ v)) (h : wpList P ops Q rest (a.put o.dst undef) (w.setCell ⟨g, j, none⟩ v)) : wpList P ops Q (o :: rest) a w :=
  wpList_plain hgd fun _ hK => by
    unfold Oper.wp execOp
    simp only [ho, hx, hy, Instr.storeAt, Instr.sureAddr, Sem.run_bind, Sem.run_pure, Result.andThen_ok, hr]
    exact hK _ _ h
end
theorem vnum_w (n : Int) : vnum n = wrap64 n := IntWalk.i64_left n
/-- What that function holds, in a world. -/
structure VkF (base g : Nat) (F : Nat → Prop) (p : PS) (B gs gm gp go gw : Nat) (s : Value) (L : List Nat) (X : List Int) (W : World) : Prop where
  pool : PoolAt W base F g p
  vs : Blk W gs 57 #[.map (some gm)]
  vp : Blk W gp 24 #[.pointer (some ⟨g, 0, none⟩)]
  vo : Blk W go 39 #[s]
  vw : Blk W gw 58 #[wkV gs gp go gw]
  seen : MapIs Try.prog 3 (Value.int .i64) I64 W gm L.length (seenF L)
  row : W.ownsRow B 3 1 s X.length (X.map (Value.int .i64))
  old : ∀ b, F b → b < B
  far : B ≤ gs ∧ B ≤ gm ∧ B ≤ gp ∧ B ≤ go ∧ B ≤ gw
  nd : L.Nodup
  lt : ∀ i ∈ L, i < p.T.length
/-- What it may write. -/
def VkG (gm go : Nat) (s : Value) (b : Nat) : Prop := b = go ∨ b = gm ∨ s.ownBlock = some b
section
variable {base g B gs gm gp go gw : Nat} {F : Nat → Prop} {p : PS} {s : Value} {L : List Nat} {X : List Int} {W V : World}
theorem VkF.step (h : VkF base g F p B gs gm gp go gw s L X W) (hb : Below W.heap.size W V) : VkF base g F p B gs gm gp go gw s L X V :=
  ⟨h.pool.below hb, h.vs.below hb h.vs.lt, h.vp.below hb h.vp.lt, h.vo.below hb h.vo.lt, h.vw.below hb h.vw.lt, h.seen.below hb h.seen.lt, own_block h.row fun r q => hb.block r (own_ge h.row r q).2, h.old, h.far, h.nd, h.lt⟩
theorem VkF.len (h : VkF base g F p B gs gm gp go gw s L X W) : L.length ≤ 4000 := Nat.le_trans (nodup_le _ _ h.nd h.lt) h.pool.few
/-- One more is marked. -/
theorem VkF.mark {n : Nat} (h : VkF base g F p B gs gm gp go gw s L X W) (hm : MapIs Try.prog 3 (Value.int .i64) I64 V gm (L.length + 1) (putF (seenF L) (n : Int) (.bool true))) (hg : W.grownBy V (some gm)) (hn : n ∉ L) (hl : n < p.T.length) :
    VkF base g F p B gs gm gp go gw s (L ++ [n]) X V where
  pool := h.pool.chg (G := fun b => b = gm) (Chg.of_grown hg fun r e => .inl (by injection e with e; exact e.symm)) fun b q e => by have := h.old b q; have := h.far; omega
  vs := h.vs.grown hg fun e => by injection e with e; exact blk_map_ne h.vs h.seen e
  vp := h.vp.grown hg fun e => by injection e with e; exact blk_map_ne h.vp h.seen e
  vo := h.vo.grown hg fun e => by injection e with e; exact blk_map_ne h.vo h.seen e
  vw := h.vw.grown hg fun e => by injection e with e; exact blk_map_ne h.vw h.seen e
  seen := by
    have := hm.congr (seenF_put L n)
    simpa using this
  row := own_block h.row fun r q => hg.block r (own_ge h.row r q).2 fun e => by injection e with e; subst e; exact own_map_ne h.row h.seen q
  old := h.old
  far := h.far
  nd := by
    rw [List.nodup_append]
    exact ⟨h.nd, by simp, fun a ha b hb => by simp at hb; subst hb; exact fun e => hn (e ▸ ha)⟩
  lt := fun i hi => by
    rcases List.mem_append.1 hi with q | q
    · exact h.lt i q
    · simp at q; omega
/-- One more variable is in the row, and is stored. -/
theorem VkF.out {s' : Value} {X' : List Int} (h : VkF base g F p B gs gm gp go gw s L X W) (hr : V.ownsRow B 3 1 s' X'.length (X'.map (Value.int .i64))) (hV : Blk V go 39 #[s']) (hc : Chg (fun b => b = go ∨ s.ownBlock = some b) W V) : VkF base g F p B gs gm gp go gw s' L X' V where
  pool := h.pool.chg hc fun b q e => by
    have := h.old b q
    have := h.far
    rcases e with e | e
    · omega
    · have := (own_ge h.row b e).1; omega
  vs := hc.blk h.vs fun e => by
    rcases e with e | e
    · exact h.vs.ne_ h.vo (by decide) e
    · exact own_blk_ne h.row h.vs (by decide) e
  vp := hc.blk h.vp fun e => by
    rcases e with e | e
    · exact h.vp.ne_ h.vo (by decide) e
    · exact own_blk_ne h.row h.vp (by decide) e
  vo := hV
  vw := hc.blk h.vw fun e => by
    rcases e with e | e
    · exact h.vw.ne_ h.vo (by decide) e
    · exact own_blk_ne h.row h.vw (by decide) e
  seen := hc.mapIs h.seen fun e => by
    rcases e with e | e
    · exact blk_map_ne h.vo h.seen e.symm
    · exact own_map_ne h.row h.seen e
  row := hr
  old := h.old
  far := h.far
  nd := h.nd
  lt := h.lt
end
theorem VkF.app {base g B gs gm gp go gw : Nat} {F : Nat → Prop} {p : PS} {s s' : Value} {L : List Nat} {X X' : List Int} {W V : World} (h : VkF base g F p B gs gm gp go gw s L X W) (hr : V.ownsRow B 3 1 s' X'.length (X'.map (Value.int .i64))) (hg : W.grownBy V s.ownBlock) :
    Blk V go 39 #[s] ∧ VkF base g F p B gs gm gp go gw s' L X' (V.setCell ⟨go, 0, none⟩ s') ∧ Chg (VkG gm go s) W (V.setCell ⟨go, 0, none⟩ s') := by
  have hb : Blk V go 39 #[s] := h.vo.grown hg fun e => own_blk_ne h.row h.vo (by decide) e.symm
  have hgo := h.vo.lt
  have hc : Chg (fun b => b = go ∨ s.ownBlock = some b) W (V.setCell ⟨go, 0, none⟩ s') := by
    refine (Chg.of_grown (F := fun b => b = go ∨ s.ownBlock = some b) hg fun r e => .inl (.inr e)).trans (G := fun b => b = go) ⟨rfl, rfl, rfl, by simp, fun k _ hk => heap_setCell_other V ⟨go, 0, none⟩ k s' (fun e => hk e)⟩ fun b q => .inl (.inl q)
  refine ⟨hb, h.out ?_ (by simpa using hb.set_ 0 s') hc, hc.mono fun b q => .inl ?_⟩
  · exact own_block hr fun r q => heap_setCell_other V ⟨go, 0, none⟩ r s' (fun e => own_blk_ne hr hb (by decide) (by rw [q, e]))
  · rcases q with q | q
    · exact .inl q
    · exact .inr (.inr q)
/-- What has come of a call. -/
def VkP (base g : Nat) (F : Nat → Prop) (p : PS) (B gs gm gp go gw n : Nat) (s : Value) (L : List Nat) (w : World) (e : Ending) (w' : World) : Prop :=
  ∃ s' L', e = .returned (.tuple #[]) ∧ VkF base g F p B gs gm gp go gw s' L' (varsOf p.T L') w' ∧ Went p.T n L L' ∧ Chg (VkG gm go s) w w' ∧ ∀ b, s'.ownBlock = some b → s.ownBlock = some b ∨ w.heap.size ≤ b
set_option maxRecDepth 100000 in
set_option maxHeartbeats 8000000 in
theorem vwalk_any (base g : Nat) (F : Nat → Prop) (p : PS) (B gs gm gp go gw : Nat) (N : Nat) : ∀ (n : Nat) (s : Value) (L : List Nat) (w : World), n < N → n < p.T.length → VkF base g F p B gs gm gp go gw s L (varsOf p.T L) w →
    Calls Try.prog 21 #[.int .i64 n, .pointer (some ⟨gs, 0, none⟩), .pointer (some ⟨gp, 0, none⟩), .pointer (some ⟨go, 0, none⟩), .pointer (some ⟨gw, 0, none⟩)] w (VkP base g F p B gs gm gp go gw n s L w) := by
  induction N with
  | zero => intro n s L w h; omega
  | succ N ih =>
    intro n s L w hN hn hf
    have HF := hide hf
    have hn4 := hf.pool.few
    have hn64 : n < 9223372036854775808 := by omega
    have HNI := hide (show I64 (n : Int) by unfold I64; omega)
    have c1 := hf.vs.cell 0
    simp at c1
    clear hf
    by_cases hin : n ∈ L
    · have HI := hide hin
      have HS := hide (show (seenF L n).getD (.bool false) = .bool true by unfold seenF; rw [if_pos (mem_cast.2 hin)]; rfl)
      clear hin
      go_enter Try.func21, Try.ntmps21
      go_wp2_with (first
        | (at_lookup
           refine wpList_look1 rfl (.tmp 12) (.tmp 13) 57 rfl 4 numK Try.underlying57 (.bool false) (zeroBo _) HF.out.seen (n : Int) HNI.out (by rfl) (by rfl) (.bool true) HS.out ?_)
        | fail)
      go_end0
      exact ⟨s, L, rfl, HF.out, Went.seen HF.out.nd HI.out, Chg.refl _ _, fun b q => .inl q⟩
    · have HI := hide hin
      have HS := hide (show (seenF L n).getD (.bool false) = .bool false by unfold seenF; rw [if_neg (fun q => hin (mem_cast.1 q))]; rfl)
      clear hin
      go_enter Try.func21, Try.ntmps21
      go_upto_region 2 with (first
        | (at_lookup
           refine wpList_look1 rfl (.tmp 12) (.tmp 13) 57 rfl 4 numK Try.underlying57 (.bool false) (zeroBo _) HF.out.seen (n : Int) HNI.out (by rfl) (by rfl) (.bool false) HS.out ?_)
        | (refine wpList_put rfl (.tmp 15) (.tmp 16) (.const (.bool true)) 57 rfl 4 numK Try.underlying57 HF.out.seen (by have := HF.out.len; unfold maxLen; omega) (n : Int) HNI.out (.bool true) (by rfl) (by rfl) (by rfl) ?_
           intro w2 M2 G2
           have HF2 := hide (HF.out.mark M2 G2 HI.out hn)
           have HC2 := hide (show Chg (VkG gm go s) w w2 from Chg.of_grown G2 fun r e => .inl (by injection e with e; exact .inr (.inl e.symm)))
           clear M2 G2)
        | fail)
      clear c1 HF HS
      obtain ⟨ad, ca, dd, da, t, x, h1, h2, _, _, _, _, ht, _, htw, _, _, hcl, _⟩ := HF2.out.pool.at_ hn
      have HT := hide ht
      have HTW := hide htw
      have HCL := hide hcl
      have v2 := HF2.out.vp.cell 0
      simp at v2
      obtain ⟨m, hm⟩ : ∃ m, p.T.length = m := ⟨_, rfl⟩
      have HM := hide hm
      have hnm := hn
      rw [hm] at h1 h2 hnm hn4
      clear ht htw hcl hm
      have hnc : n < ca := by omega
      obtain ⟨iM, hiM, hzM, hsM, hbM⟩ := info_parts infTm
      have IM := hide (And.intro hiM (And.intro hzM (And.intro hsM hbM)))
      clear hiM hzM hsM hbM
      obtain ⟨iN, hiN, hzN, hsN, hbN⟩ := info_parts infIn
      have IN := hide (And.intro hiN (And.intro hzN (And.intro hsN hbN)))
      clear hiN hzN hsN hbN
      go_upto_region 3 with (first
        | (refine wpList_load_at rfl 32 (.tmp 22) rfl (ad.add (n * 7)) (by rfl) t.cells _ HCL.out Try.underlying32 rfl sizT ?_)
        | (refine wpList_store_new rfl 32 (.tmp 6) (.tmp 23) rfl _ t.cells (termV t) (by rfl) (by rfl) rfl sizT rfl (TD.one _) ?_
           intro w3 B3 L3 Z3
           have HF3 := hide (HF2.out.step L3)
           have HC3 := hide (HC2.out.trans (Chg.of_below (F := fun _ => False) L3) (fun _ q => q.elim))
           have HB3 := hide B3
           clear B3 L3 Z3)
        | fail)
      obtain ⟨bt, hbt⟩ : ∃ b, w2.heap.size = b := ⟨_, rfl⟩
      rw [hbt] at HB3 ⊢
      clear h1 v2 HCL HF2 HC2 hbt
      have b0 := HB3.out.cell 0
      have b3 := HB3.out.cell 3
      simp [TD.cells] at b0 b3
      have vo := HF3.out.vo.cell 0
      simp at vo
      have HX := hide (show (varsOf p.T L).length ≤ 4000 from Nat.le_trans (varsOf_len _ _) (by have := HF3.out.len; simp at this; omega))
      have hwz : w.heap.size ≤ w3.heap.size := HC3.out.size
      go_upto_if 26 with fail
      go_cut [] from 12 (fun wc => ∃ s2, VkF base g F p B gs gm gp go gw s2 (L ++ [n]) (varsOf p.T (L ++ [n])) wc ∧ Chg (VkG gm go s) w wc ∧ ∀ b, s2.ownBlock = some b → s.ownBlock = some b ∨ w.heap.size ≤ b)
      case first =>
        cases hk : (t.kind == 1)
        · as_aux_lemma =>
            have HV := hide (show varsOf p.T (L ++ [n]) = varsOf p.T L by
              rw [varsOf_snoc]
              unfold varAt
              rw [HT.out]
              have : ¬ t.kind = 1 := by simpa using hk
              simp [this])
            go_wp2
            go_meet
            case rel => exact ⟨s, by rw [HV.out]; exact HF3.out, HC3.out, fun b q => .inl q⟩
        · as_aux_lemma =>
            have HV := hide (show varsOf p.T (L ++ [n]) = varsOf p.T L ++ [wrap64 t.n] by
              rw [varsOf_snoc]
              unfold varAt
              rw [HT.out]
              have : t.kind = 1 := by simpa using hk
              simp [this, vnum_w])
            obtain ⟨q, hq⟩ : ∃ q, (varsOf p.T L).length = q := ⟨_, rfl⟩
            have HQ := hide hq
            have hq4 := HX.out
            rw [hq] at hq4
            have HR := hide HF3.out.row
            rw [hq] at HR
            have hB := HF3.out.far.2.2.2.1
            have hgo := HF3.out.vo.lt
            clear hq
            go_wp2_with (first
              | (have _tok := HA
                 clear _tok
                 refine wpList_store_cell rfl 39 (.tmp 3) (.tmp 32) rfl go 0 (.slice (some ⟨g5, 0, none⟩) (q + 1) c5) (by rfl) (by rfl) (run_storeVar_one 39 go 0 39 _ _ HA.out.1 (by simp) szSI rfl rfl) ?_)
              | (refine wpList_push2 rfl rfl 39 3 (.tmp 30) (.tmp 27) (.tmp 31) rfl rfl B 1 8 iN _ (.int .i64 (wrap64 t.n)) s [.int .i64 (wrap64 t.n)] _ q Try.underlying39 IN.out.1 IN.out.2.1 IN.out.2.2.1 IN.out.2.2.2 rfl (by omega) (by omega) (by rfl) rfl rfl one_int HR.out (by omega) (by unfold maxLen; omega) (by omega) (by rfl) (by rfl) ?_
                 intro s4 w4 g4 G4 O4 B4 P4 N4
                 have HA := hide (HF3.out.app (s' := s4) (X' := varsOf p.T L ++ [wrap64 t.n]) (by rw [List.length_append, HQ.out, List.map_append]; exact O4) P4)
                 have HN4 := hide N4
                 obtain ⟨g5, c5, hs5, _⟩ := (RowL.of_own O4).form (by omega)
                 subst hs5
                 clear O4 B4 P4 G4 N4)
              | fail)
            go_meet
            case rel => exact ⟨_, by rw [HV.out]; exact HA.out.2.1, HC3.out.trans HA.out.2.2 (fun b q => .inl q), fun b q => (HN4.out b q).imp id fun q => by omega⟩
      case rest =>
        obtain ⟨s2, hf2, hc2, hs2⟩ := hcut
        clear HF3 HC3 HB3 HX b0 b3 vo hwz
        have HF2 := hide hf2
        have HC2 := hide hc2
        have HS2 := hide hs2
        clear hf2 hc2 hs2
        obtain ⟨ad, ca, dd, da, t', x', h1, h2, _, _, _, _, ht, _, _, _, _, hcl, _⟩ := HF2.out.pool.at_ hn
        obtain rfl : t = t' := by rw [HT.out] at ht; exact Option.some.inj ht
        have HCL := hide hcl
        have v2 := HF2.out.vp.cell 0
        simp at v2
        rw [HM.out] at h1 h2
        have hnc : n < ca := by omega
        clear ht hcl
        go_wp2_with (first
          | (refine wpList_load_at rfl 32 (.tmp 39) rfl (ad.add (n * 7)) (by rfl) t.cells _ HCL.out Try.underlying32 rfl sizT ?_)
          | fail)
        refine (parts_any t HTW.out _).mono ?_
        rintro e w4 ⟨l, rfl, hnl, hb⟩
        have HF4 := hide (HF2.out.step hb)
        have HC4 := hide (HC2.out.trans (Chg.of_below (F := fun _ => False) hb) (fun _ q => q.elim))
        have HNL := hide hnl
        have HBW := hide (show ∀ b, VkG gm go s2 b → b < wc.heap.size from fun b q => by
          rcases q with q | q | q
          · rw [q]; exact HF2.out.vo.lt
          · rw [q]; exact HF2.out.seen.lt
          · exact (own_ge HF2.out.row b q).2)
        clear hb hnl h1 h2 v2 HCL
        go_wp2_with (first
          | (refine wpList_store_new rfl 32 (.tmp 8) (.tmp 43) rfl _ (likeT t).cells (termV (likeT t)) (by rfl) (by rfl) rfl sizT rfl (TD.one _) ?_
             intro w5 G5 L5 Z5
             replace HF4 := hide (HF4.out.step L5)
             replace HC4 := hide (HC4.out.trans (Chg.of_below (F := fun _ => False) L5) (fun _ q => q.elim))
             replace HNL := hide (HNL.out.step L5)
             clear G5 L5 Z5)
          | fail)
        obtain ⟨A, cc, rfl, hcl, hr, hge⟩ := HNL.out
        obtain ⟨m1, hm1⟩ : ∃ m, (prtL t).length = m := ⟨_, rfl⟩
        have HM1 := hide hm1
        have hl3 := prtL_len t
        replace HNL : Hid (NumsAt w5 wc.heap.size (.slice A m1 cc) (prtL t)) := by rw [← hm1]; exact ⟨A, cc, rfl, hcl, hr, hge⟩
        rw [hm1] at hl3 hcl ⊢
        have HWZ := hide (And.intro HC4.out.size (show w.heap.size ≤ w5.heap.size from HC4.out.size))
        clear hm1 hr hge
        go_wp2
        go_simp
        go_wp2
        go_loopw [47] (fun iv wq => ∃ (j : Nat) (s1 : Value) (L1 : List Nat), j ≤ m1 ∧ iv = .int .i64 j ∧ WentP p.T n ((prtL t).take j) L L1 ∧ VkF base g F p B gs gm gp go gw s1 L1 (varsOf p.T L1) wq ∧ Chg (VkG gm go s2) w5 wq ∧ ∀ b, s1.ownBlock = some b → s2.ownBlock = some b ∨ w5.heap.size ≤ b) (fun iv _ => m1 - (intOf iv).toNat)
        case atStart => exact ⟨0, s2, L ++ [n], by omega, rfl, by rw [List.take_zero]; exact WentP.zero (by have := HF4.out.nd; exact (List.nodup_append.1 this).1) HI.out, HF4.out, Chg.refl _ _, fun b q => .inl q⟩
        case round =>
          obtain ⟨j, s1, L1, hj, rfl, hwp, hf, hgr, hs1⟩ := hrel
          have HWP := hide hwp
          have HFr := hide hf
          have HGr := hide hgr
          have HS1 := hide hs1
          have c4 := hf.vw.cell 0
          simp at c4
          clear hwp hf hgr hs1
          by_cases hlj : j < m1
          · have hnr := HNL.out.keep HGr.out.size (fun i hi hlt => HGr.out.block i hlt (fun q => by have := HBW.out i q; omega))
            obtain ⟨ad3, y, rfl, _, hy, _, _, hcy⟩ := hnr.at_ hlj
            have HY := hide hy
            obtain ⟨hy0, hy1⟩ := HFr.out.pool.wf.part n t HT.out y (List.mem_of_getElem? hy)
            obtain ⟨k, rfl⟩ := Int.eq_ofNat_of_zero_le hy0
            have HIH := hide (ih k s1 L1 wr (by omega) (by omega) HFr.out)
            clear hy hnr hy1 hy0
            go_wp2_with fail
            refine HIH.out.mono ?_
            rintro e w6 ⟨s6, L6, rfl, hf6, hw6, hc6, hs6⟩
            have HF6 := hide hf6
            have HW6 := hide hw6
            have HC6 := hide (HGr.out.trans hc6 (fun b q => by
              rcases q with q | q | q
              · exact .inl (.inl q)
              · exact .inl (.inr (.inl q))
              · exact (HS1.out b q).imp (fun q => .inr (.inr q)) id))
            have HS6 := hide (show ∀ b, s6.ownBlock = some b → s2.ownBlock = some b ∨ w5.heap.size ≤ b from fun b q => (hs6 b q).elim (HS1.out b) (fun q => .inr (Nat.le_trans HGr.out.size q)))
            clear hf6 hw6 hc6 hs6
            go_wp2_with fail
            go_roundw
            case measure => simp [intOf]; omega
            case rel => exact ⟨j + 1, s6, L6, by omega, by go_num, by rw [take_snoc_ HY.out]; exact HWP.out.step HT.out (List.mem_of_getElem? HY.out) HW6.out, HF6.out, HC6.out, HS6.out⟩
          · obtain rfl : j = m1 := by omega
            go_wp2_with fail
            go_end0
            refine ⟨s1, L1, rfl, HFr.out, ?_, HC4.out.trans HGr.out ?_, fun b q => ?_⟩
            · have := HWP.out
              rw [← HM1.out, List.take_length] at this
              exact this.done HT.out
            · intro b q
              rcases q with q | q | q
              · exact .inl (.inl q)
              · exact .inl (.inr (.inl q))
              · exact (HS2.out b q).imp (fun q => .inr (.inr q)) id
            · rcases HS1.out b q with q | q
              · exact HS2.out b q
              · exact .inr (Nat.le_trans HWZ.out.2 q)
end Go.Proofs.Ytafbjcnonhpldaa
