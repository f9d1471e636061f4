/-
  Contracts: All (the iterator's value). Conditions: those written in each statement.
  The iterator of a nil pool: no round. Conditions: those written in each statement.
  The iterator of a pool: its terms in order, for whatever body that keeps the pool and the iterator's box. Conditions: those written in each statement.
  Copy: a pool's terms put one behind the other come to the same pool; the walk. Conditions: those written in each statement.
  Copy's walk. Conditions: those written in each statement.
-/
import Derived.Test.YtfjflefgclfbfaaPu
import Derived.RangeFuncNested
import Derived.RangeFuncBound
import Derived.RangeFuncCalls
import Derived.RangeFuncLeaves
import Derived.Shelf.Abstract
import Derived.Shelf.RegionOpen
import Derived.WalkKit
import Derived.OwnWalkIn
import Derived.TacticsInMore
import Derived.LoopNIn
import Derived.LoopIn
import Derived.Test.YtfjflefgclfbfaaKb
section
namespace Go.Proofs.Ytfjflefgclfbfaa
open Go.RowKit
set_option linter.unusedVariables false
set_option linter.unusedSimpArgs false
theorem all_any (a : Option Addr) (w : World) : Calls Try.prog 39 #[.pointer a] w fun e w' => e = .returned (.func (.func 89) #[] #[.pointer (some ⟨w.heap.size, 0, none⟩)]) ∧ w' = w.alloc (.cells #[.pointer a] 26) := by
  go_enter Try.func39, Try.ntmps39
  go_wp2
  go_ret
  exact ⟨rfl, rfl⟩
theorem copy_nil (w : World) : Calls Try.prog 20 #[.pointer none] w fun e w' => e = .returned (.pointer none) ∧ w = w' := by
  go_enter Try.func20, Try.ntmps20
  go_wp2
  go_ret
  exact ⟨rfl, rfl⟩
end Go.Proofs.Ytfjflefgclfbfaa
end
section
namespace Go.Proofs.Ytfjflefgclfbfaa
open Go.RowKit Go.Shelf
attribute [local go_sem] Oper.semAt_some
set_option linter.unusedVariables false
set_option linter.unusedSimpArgs false
theorem all1_nil {α : Type} (n l Bs : Nat) (J : List α → World → Prop) (W : World) (hBs : W.cell? ⟨Bs, 0, none⟩ = some (.pointer none)) (h0 : J [] W) :
    CallsIn Fence.wide n Try.prog 89 #[.func (.yield l) #[] #[], .pointer (some ⟨Bs, 0, none⟩)] W fun e W' => (∃ v, e = .returned v) ∧ J [] W' := by
  refine callsIn_of_wp Try.func89 rfl trivial ?_ rfl
  simp only [Try.ntmps89, List.size_toArray, List.length_cons, List.length_nil, Nat.reduceAdd, Nat.reduceSub, Array.replicate_succ, Array.replicate_zero, List.push_toArray, List.append_toArray, List.nil_append, List.cons_append]
  gi_wp2
  refine ⟨trivial, fun h => (by cases h), (callsIn_wide.2 (len_nil _)).mono ?_⟩
  rintro e w2 ⟨rfl, rfl⟩
  gi_wp2
  gi_loopw [6] (fun i wr => i = .int .i64 0 ∧ J [] wr) (fun _ _ => 0)
  case atStart => exact ⟨rfl, h0⟩
  case round =>
    obtain ⟨rfl, hJ⟩ := hrel
    gi_wp2
    go_end0
    exact ⟨⟨_, rfl⟩, hJ⟩
end Go.Proofs.Ytfjflefgclfbfaa
end
section
namespace Go.Proofs.Ytfjflefgclfbfaa
open Go.RowKit Go.Shelf
attribute [local go_sem] Oper.semAt_some
set_option linter.unusedVariables false
set_option linter.unusedSimpArgs false
theorem wpListIn_load_at {F : Fence} {n : Nat} {P : Program} {ops : Array Oper} {rest : List Oper} {o : Oper} {a : Act} {w : World} {Q : Exit → Act → World → Prop} (hgd : o.guard = none) (ty : TypeId) (x : Operand) (ho : o.op = .load ty x)
    (ad : Addr) (hx : a.eval x = .pointer (some ad)) (cs : List Value) (d : TypeDesc) (hc : ∀ j u, cs[j]? = some u → w.cell? (ad.add j) = some u)
    (hu : P.underlying ty = some d) (hd : aggD d = true) (hi : (P.info? ty).map (·.size) = some cs.length)
    (h : wpListIn F n P ops Q rest (a.put o.dst (.agg cs.toArray)) w) : wpListIn F n P ops Q (o :: rest) a w := by
  refine wpListIn_plain hgd fun K hK => ?_
  unfold Oper.wpIn
  refine ⟨by simp [Oper.about, ho], ?_⟩
  rw [Oper.semAt_plain F _ _ (by rw [ho]; intro c hc'; cases hc')]
  unfold execOp
  simp only [ho, hx, Instr.loadAt, Instr.sureAddr, Sem.run_bind, Sem.run_pure, Result.andThen_ok, run_loadVar_at w ad ty cs d hc hu hd hi]
  exact hK _ _ h
/-- What a round keeps: what lay below n₀, and the iterator's box. -/
def KpC (n₀ Bs : Nat) (W W' : World) : Prop := Below n₀ W W' ∧ W'.heap[Bs]? = W.heap[Bs]?
theorem KpC.trans {n₀ Bs : Nat} {A B C : World} (h : KpC n₀ Bs A B) (k : KpC n₀ Bs B C) : KpC n₀ Bs A C := ⟨h.1.trans k.1, k.2.trans h.2⟩
theorem KpC.put {n₀ Bs : Nat} {w : World} (hn : n₀ ≤ w.heap.size) (hB : Bs < w.heap.size) (W : World) (l : Nat) (o o' : Obj) (hl : w.heap.size ≤ l) (h : W.heap[l]? = some o) (h1 : o.isCells = false) (h2 : o.isWalk = false) : KpC n₀ Bs W (W.putObj l o') :=
  ⟨belowK_b hn W l o o' hl h h1 h2, (grownBy_putObj' W l o').block Bs (by have := (Array.getElem?_eq_some_iff.1 h).1; omega) (fun e => by cases e; omega)⟩
/-- What the iterator hands on: a term's number, the term. -/
abbrev ItT := { x : Nat × TD // x.2.wf }
def encI (x : ItT) : Array Value := #[.int .i64 (x.1.1 : Int), termV x.1.2]
/-- The first k terms. -/
def upI (T : List TD) (h : ∀ t ∈ T, t.wf) (k : Nat) : List ItT := (T.take k).attach.zipIdx.map fun p => ⟨(p.2, p.1.1), h p.1.1 (List.mem_of_mem_take p.1.2)⟩
theorem upI_len (T : List TD) (h : ∀ t ∈ T, t.wf) (k : Nat) (hk : k ≤ T.length) : (upI T h k).length = k := by unfold upI; simp; omega
theorem upI_map (T : List TD) (h : ∀ t ∈ T, t.wf) (k : Nat) : (upI T h k).map (fun x => x.1.2) = T.take k := by
  unfold upI
  rw [List.map_map, show ((fun x : ItT => x.1.2) ∘ fun p : { x // x ∈ T.take k } × Nat => (⟨(p.2, p.1.1), h p.1.1 (List.mem_of_mem_take p.1.2)⟩ : ItT)) = (fun y => y.1) ∘ (fun p => p.1) from rfl, ← List.map_map]
  simp
theorem upI_succ (T : List TD) (h : ∀ t ∈ T, t.wf) (k : Nat) (t : TD) (hw : t.wf) (ht : T[k]? = some t) : upI T h (k + 1) = upI T h k ++ [⟨(k, t), hw⟩] := by
  have hk : k < T.length := (List.getElem?_eq_some_iff.1 ht).1
  refine List.ext_getElem? fun i => ?_
  unfold upI
  simp only [List.getElem?_map, List.getElem?_zipIdx]
  rcases Nat.lt_trichotomy i k with hi | rfl | hi
  · rw [List.getElem?_append_left (by simp; omega)]
    simp only [List.getElem?_map, List.getElem?_zipIdx]
    rw [List.getElem?_eq_getElem (by simp; omega), List.getElem?_eq_getElem (by simp; omega)]
    simp
  · rw [List.getElem?_append_right (by simp; omega)]
    rw [List.getElem?_eq_getElem (by simp; omega)]
    simp [Nat.min_eq_left (Nat.le_of_lt hk)]
    rw [List.getElem?_eq_some_iff] at ht
    exact ht.2
  · rw [List.getElem?_append_right (by simp; omega), List.getElem?_eq_none (by simp; omega)]
    rw [List.getElem?_eq_none (by simp; omega)]
    rfl
set_option maxRecDepth 100000 in
set_option maxHeartbeats 4000000 in
theorem all1_any {base g Bs n l : Nat} {Fo : Nat → Prop} {p : PS} {w0 : World} (hp : PoolAt w0 base Fo g p) (hrng : ∀ t ∈ p.T, t.wf) (J Jx : List ItT → World → Prop)
    (hY : ∀ pre x W, J pre W → pre.length < p.T.length → YieldAt Fence.wide (n - 1) Try.prog l (encI x) W fun e W' =>
      (e = .returned (.bool true) ∧ J (pre ++ [x]) W' ∧ KpC w0.heap.size Bs W W') ∨ (e = .returned (.bool false) ∧ Jx (pre ++ [x]) W'))
    (W : World) (hb : Below w0.heap.size w0 W) (hBs : W.cell? ⟨Bs, 0, none⟩ = some (.pointer (some ⟨g, 0, none⟩))) (h0 : J [] W) :
    CallsIn Fence.wide n Try.prog 89 #[.func (.yield l) #[] #[], .pointer (some ⟨Bs, 0, none⟩)] W fun e W' => (∃ v, e = .returned v) ∧
      ((∃ xs, xs = upI p.T hrng p.T.length ∧ J xs W') ∨ (∃ pre, (∃ k, k ≤ p.T.length ∧ pre = upI p.T hrng k) ∧ Jx pre W')) := by
  have HP := hide hp
  have HBW := hide hb
  have HBC := hide hBs
  have HR := hide (upI_succ p.T hrng)
  have hfew := hp.few
  refine callsIn_of_wp Try.func89 rfl trivial ?_ rfl
  simp only [Try.ntmps89, List.size_toArray, List.length_cons, List.length_nil, Nat.reduceAdd, Nat.reduceSub, Array.replicate_succ, Array.replicate_zero, List.push_toArray, List.append_toArray, List.nil_append, List.cons_append]
  clear hp hb
  gi_wp2
  refine ⟨trivial, fun h => (by cases h), (callsIn_wide.2 (len_any (HP.out.below HBW.out))).mono ?_⟩
  rintro e w2 ⟨rfl, rfl⟩
  gi_wp2
  gi_loopw [6] (fun iv wr => ∃ k : Nat, k ≤ p.T.length ∧ iv = .int .i64 (k : Int) ∧ Below w0.heap.size w0 wr ∧ wr.cell? ⟨Bs, 0, none⟩ = some (.pointer (some ⟨g, 0, none⟩)) ∧ J (upI p.T hrng k) wr) (fun iv _ => p.T.length - (intOf iv).toNat)
  case atStart => exact ⟨0, by omega, rfl, HBW.out, HBC.out, h0⟩
  case round =>
    obtain ⟨k, hk, rfl, hb, hc, hJ⟩ := hrel
    clear HBW HBC hBs h0
    by_cases hlt : k < p.T.length
    · have H := hide (HP.out.below hb)
      obtain ⟨ad, c, dd, d, t, x', h1, h2, _, _, _, _, ht, _, htw, _, _, hat, _⟩ := H.out.at_ hlt
      have HC := hide hat
      have HN := hide (HR.out k t htw ht)
      have hkc : k < c := by omega
      have hl := upI_len p.T hrng k hk
      obtain ⟨fn, tmps, assign, body, hy, hRd⟩ := hY (upI p.T hrng k) ⟨(k, t), htw⟩ wr hJ (by omega)
      have HRD := hide hRd
      have hbo := hide hb
      clear hat ht hb hRd
      unfold encI termV at hy
      dsimp only at hy
      gi_wp2_with (first
        | (refine wpListIn_load_at rfl 86 (.tmp 16) rfl (ad.add (k * 7)) (by rfl) t.cells _ HC.out Try.underlying86 rfl sizT ?_)
        | fail)
      refine ⟨fun h => (by cases h), HRD.out.mono ?_⟩
      rintro e W3 (⟨rfl, hJ3, hk3⟩ | ⟨rfl, hJx3⟩)
      · have hc3 : W3.cell? ⟨Bs, 0, none⟩ = some (.pointer (some ⟨g, 0, none⟩)) := (World.cell?_of_block hk3.2).trans hc
        have hb3 := hide (hbo.out.trans hk3.1)
        have hJ3' := hide hJ3
        clear hJ3 hk3 HRD hJ hy
        gi_wp2
        go_roundw
        case rel => exact ⟨k + 1, by omega, by go_num, hb3.out, hc3, by rw [HN.out]; exact hJ3'.out⟩
        case measure => simp [intOf]; omega
      · have hJ3' := hide hJx3
        clear hJx3 HRD hJ hy
        gi_wp2
        refine bodyPost_ret (results_none rfl _ _ _) rfl ?_
        refine ⟨⟨_, rfl⟩, .inr ⟨upI p.T hrng (k + 1), ⟨k + 1, by omega, rfl⟩, by rw [HN.out]; exact hJ3'.out⟩⟩
    · obtain rfl : k = p.T.length := by omega
      gi_wp2
      go_end0
      exact ⟨⟨_, rfl⟩, .inl ⟨_, rfl, hJ⟩⟩
theorem all_stops {base g Bs n : Nat} {Fo : Nat → Prop} {p : PS} {w0 w : World} (hp : PoolAt w0 base Fo g p) (hrng : ∀ t ∈ p.T, t.wf) (hb : Below w0.heap.size w0 w) (hB : Bs < w.heap.size) (hc : w.cell? ⟨Bs, 0, none⟩ = some (.pointer (some ⟨g, 0, none⟩))) :
    SeqStopsK Fence.wide n Try.prog 89 #[.pointer (some ⟨Bs, 0, none⟩)] encI (KpC w0.heap.size Bs) (fun xs => xs = upI p.T hrng p.T.length) (fun pre => ∃ k, k ≤ p.T.length ∧ pre = upI p.T hrng k) p.T.length w := fun l J Jx W hW _ _ hY h0 =>
  all1_any hp hrng J Jx hY W (hb.trans (hW.mono hb.size)) ((hW.cell (p := ⟨Bs, 0, none⟩) hB).trans hc) h0
end Go.Proofs.Ytfjflefgclfbfaa
end
section
namespace Go.Proofs.Ytfjflefgclfbfaa
open Go.RowKit Go.Shelf
attribute [local go_sem] Oper.semAt_some
set_option linter.unusedVariables false
set_option linter.unusedSimpArgs false
/-- The first k terms, put, are the pool's first k. -/
theorem putAll_take {p : PS} (h : WfP p) : ∀ k, k ≤ p.T.length → putAll ⟨[], []⟩ (p.T.take k) = ⟨p.T.take k, p.D.take k⟩
  | 0, _ => by simp [putAll]
  | k + 1, hk => by
    have hT : p.T[k]? = some p.T[k] := List.getElem?_eq_getElem (by omega)
    generalize p.T[k] = t at hT
    have hD := h.deep k t hT
    have hpart := h.part k t hT
    have hlow := h.low _ (List.mem_of_getElem? hD)
    have hfew := h.few
    have hlen := h.len
    have hTk : (p.T.take k).length = k := by simp; omega
    have e1 : p.T.take (k + 1) = p.T.take k ++ [t] := by rw [List.take_add_one, hT]; rfl
    have e2 : p.D.take (k + 1) = p.D.take k ++ [dmax p.D (prtL t)] := by rw [List.take_add_one, hD]; rfl
    rw [e1, putAll_snoc, putAll_take h k (by omega), e2]
    have hdm : dmax (p.D.take k) (prtL t) = dmax p.D (prtL t) := by
      unfold dmax
      have : ∀ (l : List Int), (∀ q ∈ l, 0 ≤ q ∧ q < (k : Int)) → ∀ a, l.foldl (fun d n => max d ((p.D.take k).getD n.toNat 0 + 1)) a = l.foldl (fun d n => max d (p.D.getD n.toNat 0 + 1)) a := by
        intro l
        induction l with
        | nil => intro _ a; rfl
        | cons x r ih =>
          intro hl a
          have hx := hl x (by simp)
          rw [List.foldl_cons, List.foldl_cons, ih (fun q hq => hl q (by simp [hq]))]
          congr 2
          rw [List.getD_eq_getElem?_getD, List.getD_eq_getElem?_getD, List.getElem?_take_of_lt (by omega)]
      exact this _ hpart 1
    have hok : okP (p.T.take k) t = true := by
      unfold okP
      rw [h.ok k t hT]
      have h1 : (prtL t).all (hasB (p.T.take k)) = true := by
        rw [List.all_eq_true]
        intro q hq
        have := hpart q hq
        unfold hasB
        rw [hTk]
        simp
        omega
      have h2 : clashB (p.T.take k) t = false := by
        unfold clashB
        cases hw : Go.Proofs.Ytfjflefgclfbfaa.wideF (p.T.take k) t.n with
        | none => simp
        | some w' =>
          obtain ⟨i, u, hu, hk1, hn, hw'⟩ := wideF_some hw
          have hik : i < k := by have := (List.getElem?_eq_some_iff.1 hu).1; omega
          rw [List.getElem?_take_of_lt hik] at hu
          by_cases ht1 : t.kind = 1
          · have := h.wide i k u t hu hT hk1 ht1 hn
            simp [← hw', this]
          · simp [ht1]
      rw [h1, h2]
      rfl
    have hat : atT (p.T.take k) t = none := by
      cases e : atT (p.T.take k) t with
      | none => rfl
      | some i =>
        have hu := atT_some e
        have hik : i < k := by have := (List.getElem?_eq_some_iff.1 hu).1; omega
        rw [List.getElem?_take_of_lt hik] at hu
        have := h.once i k t hu hT
        omega
    unfold putP
    rw [if_pos ⟨hok, hat, by show (p.T.take k).length < 4000; rw [hTk]; omega, by show dmax (p.D.take k) _ ≤ 256; rw [hdm]; exact hlow.2⟩]
    rw [hdm]
theorem putAll_self {p : PS} (h : WfP p) : putAll ⟨[], []⟩ p.T = p := by
  have := putAll_take h p.T.length (Nat.le_refl _)
  rw [List.take_length] at this
  rw [this, ← h.len, List.take_length]
/-- A block of cells. -/
def CellsB (W : World) (b : Nat) : Prop := ∃ ob : Obj, W.heap[b]? = some ob ∧ ob.isCells = true
theorem own_cells {w : World} {base : Nat} {e : TypeId} {size n : Nat} {v : Value} {xs : List Value} (h : w.ownsRow base e size v n xs) {b : Nat} (hb : v.ownBlock = some b) : CellsB w b := by
  rcases h.2 with h | ⟨g, cap, cur, h1, h2, h3, h4⟩
  · rw [h.1] at hb; cases hb
  · rw [h1] at hb
    injection hb with hb
    subst hb
    exact ⟨_, h3, rfl⟩
section
variable {w : World} {base g : Nat} {F : Nat → Prop} {p : PS}
/-- Where a pool's two maps lie. -/
def MapsAt (w : World) (g o v : Nat) : Prop := w.cell? ⟨g, 2, none⟩ = some (.map (some o)) ∧ w.cell? ⟨g, 3, none⟩ = some (.map (some v))
theorem PoolAt.maps (h : PoolAt w base F g p) : ∃ o v, MapsAt w g o v ∧ F o ∧ F v := by
  obtain ⟨ls, ds, o, v, h1, h2, h3, h4, h5, h6, hov, f1, f2, f3, f4, f5⟩ := h.ex
  exact ⟨o, v, ⟨h1.cell 2, h1.cell 3⟩, f2, f3⟩
theorem PoolAt.tight (h : PoolAt w base F g p) {o v : Nat} (hm : MapsAt w g o v) : ∃ F', PoolAt w base F' g p ∧ (∀ b, F' b → F b) ∧ (∀ b, F' b → b = o ∨ b = v ∨ CellsB w b) := by
  obtain ⟨ls, ds, o', v', h1, h2, h3, h4, h5, h6, hov, f1, f2, f3, f4, f5⟩ := h.ex
  have e1 : o' = o := by have := (h1.cell 2).symm.trans hm.1; simpa using this
  have e2 : v' = v := by have := (h1.cell 3).symm.trans hm.2; simpa using this
  subst e1
  subst e2
  refine ⟨fun b => b = g ∨ b = o' ∨ b = v' ∨ ls.ownBlock = some b ∨ ds.ownBlock = some b, ⟨⟨ls, ds, o', v', h1, h2, h3, h4, h5, h6, hov, .inl rfl, .inr (.inl rfl), .inr (.inr (.inl rfl)), fun b q => .inr (.inr (.inr (.inl q))), fun b q => .inr (.inr (.inr (.inr q)))⟩, h.wf, h.rng, ?_⟩, ?_, ?_⟩
  · rintro b (rfl | rfl | rfl | q | q)
    · exact h.fb _ f1
    · exact h.fb _ f2
    · exact h.fb _ f3
    · exact h.fb _ (f4 b q)
    · exact h.fb _ (f5 b q)
  · rintro b (rfl | rfl | rfl | q | q)
    · exact f1
    · exact f2
    · exact f3
    · exact f4 b q
    · exact f5 b q
  · rintro b (rfl | rfl | rfl | q | q)
    · exact .inr (.inr ⟨_, h1, rfl⟩)
    · exact .inl rfl
    · exact .inr (.inl rfl)
    · exact .inr (.inr (own_cells h2 q))
    · exact .inr (.inr (own_cells h3 q))
end
/-- What stands between two rounds: the copy so far, the variables' boxes. -/
structure CopyI (B gq o v B3 Bs : Nat) (w : World) (T : List TD) (F : Nat → Prop) (W : World) : Prop where
  pool : PoolAt W w.heap.size F gq (putAll ⟨[], []⟩ T)
  maps : MapsAt W gq o v
  tight : ∀ b, F b → b = o ∨ b = v ∨ CellsB W b
  box : Boxed W B3 26 (.pointer (some ⟨gq, 0, none⟩))
  below : Below w.heap.size w W
  ob : o < B
  vb : v < B
  fb3 : ¬ F B3
  fbs : ¬ F Bs
  size : B ≤ W.heap.size
  old : w.heap.size ≤ B
  bs : Bs < B
section
variable {B gq o v B3 Bs : Nat} {w : World} {T : List TD} {F : Nat → Prop} {W V : World}
theorem CopyI.step (h : CopyI B gq o v B3 Bs w T F W) {row : Option Nat} (hg : W.grownBy V row) (hr : ∀ r, row = some r → B ≤ r ∧ ∃ ob : Obj, W.heap[r]? = some ob ∧ ob.isCells = false) : CopyI B gq o v B3 Bs w T F V where
  pool := h.pool.chg (Chg.of_grown hg (fun g e => .inl (e.symm : some g = row))) (fun b q e => by
    obtain ⟨h1, ob, h2, h3⟩ := hr b e.symm
    rcases h.tight b q with rfl | rfl | ⟨ob', h4, h5⟩
    · have := h.ob; omega
    · have := h.vb; omega
    · rw [h2] at h4; cases h4; rw [h3] at h5; cases h5)
  maps := ⟨cell_kept h.maps.1 hg (fun r e => (hr r e).2), cell_kept h.maps.2 hg (fun r e => (hr r e).2)⟩
  tight := fun b q => by
    rcases h.tight b q with e | e | ⟨ob', h4, h5⟩
    · exact .inl e
    · exact .inr (.inl e)
    · refine .inr (.inr ⟨ob', (hg.block b (Array.getElem?_eq_some_iff.1 h4).1 (fun e => ?_)).trans h4, h5⟩)
      obtain ⟨h1, ob, h2, h3⟩ := hr b e.symm
      rw [h2] at h4; cases h4; rw [h3] at h5; cases h5
  box := boxed_own B3 26 (fun _ : Unit => Value.pointer (some ⟨gq, 0, none⟩)) () W V row h.box hg (fun r e => (hr r e).2)
  below := h.below.grown hg (Nat.le_trans h.old h.size) (fun k e => Nat.le_trans h.old (hr k e).1)
  ob := h.ob
  vb := h.vb
  fb3 := h.fb3
  fbs := h.fbs
  size := Nat.le_trans h.size hg.size
  old := h.old
  bs := h.bs
/-- A term more. -/
theorem CopyI.putp {t : TD} {F2 : Nat → Prop} (h : CopyI B gq o v B3 Bs w T F W) (hp : PoolAt V w.heap.size F2 gq (putP (putAll ⟨[], []⟩ T) t)) (hc : Chg F W V) (hf : ∀ b, F2 b → F b ∨ W.heap.size ≤ b)
    (h2 : V.cell? ⟨gq, 2, none⟩ = W.cell? ⟨gq, 2, none⟩) (h3 : V.cell? ⟨gq, 3, none⟩ = W.cell? ⟨gq, 3, none⟩) :
    (∃ F', CopyI B gq o v B3 Bs w (T ++ [t]) F' V) ∧ KeepsFrom B W V ∧ KpC w.heap.size Bs W V := by
  have hm : MapsAt V gq o v := ⟨h2.trans h.maps.1, h3.trans h.maps.2⟩
  obtain ⟨F', p1, p2, p3⟩ := hp.tight hm
  have hb : Below w.heap.size W V := hc.below (fun b q => (h.pool.fb b q).1) h.below.size
  have hbs : Bs < W.heap.size := Nat.lt_of_lt_of_le h.bs h.size
  have hb3 := h.box.lt
  refine ⟨⟨F', ⟨by rw [putAll_snoc]; exact p1, hm, p3, (hc.block B3 hb3 h.fb3).trans h.box, h.below.trans hb, h.ob, h.vb, ?_, ?_, Nat.le_trans h.size hc.size, h.old, h.bs⟩⟩, ⟨hc.size, ?_⟩, hb, hc.block Bs hbs h.fbs⟩
  · intro q
    rcases hf _ (p2 _ q) with q | q
    · exact h.fb3 q
    · omega
  · intro q
    rcases hf _ (p2 _ q) with q | q
    · exact h.fbs q
    · omega
  · intro k ob hk hW ho
    refine (hc.block k (Array.getElem?_eq_some_iff.1 hW).1 (fun q => ?_)).trans hW
    rcases h.tight k q with rfl | rfl | ⟨ob', h4, h5⟩
    · have := h.ob; omega
    · have := h.vb; omega
    · rw [hW] at h4; cases h4; rw [ho] at h5; cases h5
end
end Go.Proofs.Ytfjflefgclfbfaa
end
section
namespace Go.Proofs.Ytfjflefgclfbfaa
open Go.RowKit Go.Shelf
attribute [local go_sem] Oper.semAt_some
set_option linter.unusedVariables false
set_option linter.unusedSimpArgs false
set_option maxRecDepth 100000 in
set_option maxHeartbeats 4000000 in
theorem copy_any {base g : Nat} {Fo : Nat → Prop} {p : PS} (w : World) (h : PoolAt w base Fo g p) :
    Calls Try.prog 20 #[.pointer (some ⟨g, 0, none⟩)] w fun e w' => ∃ g' F', e = .returned (.pointer (some ⟨g', 0, none⟩)) ∧ PoolAt w' w.heap.size F' g' p ∧ Below w.heap.size w w' := by
  have HP := hide h
  have hrng := h.rng
  have hself := putAll_self h.wf
  have HS := hide hself
  clear h hself
  refine (callsIn_wide (n := 3)).1 ?_
  refine callsIn_of_wp_marks Try.func20 rfl trivial ?_ rfl
  simp only [Try.ntmps20, List.size_toArray, List.length_cons, List.length_nil, Nat.reduceAdd, Nat.reduceSub, Array.replicate_succ, Array.replicate_zero, List.push_toArray, List.append_toArray, List.nil_append, List.cons_append]
  gi_wp2
  refine ⟨trivial, (callsIn_wide.2 (new_any _)).mono ?_⟩
  rintro e w1 ⟨gq, F, rfl, hp, hb⟩
  have HN := hide hp
  have HB := hide hb
  clear hp hb
  gi_wp2
  refine ⟨trivial, (callsIn_wide.2 (all_any (some ⟨g, 0, none⟩) _)).mono ?_⟩
  rintro e w2 ⟨rfl, rfl⟩
  gi_wp2
  obtain ⟨o, v, hm, hfo, hfv⟩ := HN.out.maps
  obtain ⟨F', p1, p2, p3⟩ := HN.out.tight hm
  have hF1 := fun b q => HN.out.fb b (p2 b q)
  have ho := HN.out.fb o hfo
  have hv := HN.out.fb v hfv
  have c3 := (Boxed.new w1 26 (.pointer (some ⟨gq, 0, none⟩))).alloc (.cells #[.pointer (some ⟨g, 0, none⟩)] 26)
  have cs := Boxed.new (w1.alloc (.cells #[.pointer (some ⟨gq, 0, none⟩)] 26)) 26 (.pointer (some ⟨g, 0, none⟩))
  have hB1 : Below w1.heap.size w1 ((w1.alloc (.cells #[.pointer (some ⟨gq, 0, none⟩)] 26)).alloc (.cells #[.pointer (some ⟨g, 0, none⟩)] 26)) :=
    ((Below.refl _ w1).alloc (Nat.le_refl _) _).alloc (by simp) _
  simp only [World.size_alloc] at c3 cs
  generalize hW0 : (w1.alloc (.cells #[.pointer (some ⟨gq, 0, none⟩)] 26)).alloc (.cells #[.pointer (some ⟨g, 0, none⟩)] 26) = W0 at c3 cs hB1 ⊢
  have hsz : W0.heap.size = w1.heap.size + 2 := by rw [← hW0]; simp
  clear hW0
  have hw1 := HB.out.size
  have hgq : gq < w1.heap.size := by obtain ⟨_, _, _, _, h1, _⟩ := HN.out.ex; exact h1.lt
  have HI0 : Hid (CopyI W0.heap.size gq o v w1.heap.size (w1.heap.size + 1) w [] F' W0) :=
    ⟨p1.below hB1, ⟨(hB1.cell (p := ⟨gq, 2, none⟩) hgq).trans hm.1, (hB1.cell (p := ⟨gq, 3, none⟩) hgq).trans hm.2⟩, fun b q => by
        rcases p3 b q with e | e | ⟨ob, h4, h5⟩
        · exact .inl e
        · exact .inr (.inl e)
        · exact .inr (.inr ⟨ob, (hB1.block b (hF1 b q).2).trans h4, h5⟩), c3, HB.out.trans (hB1.mono hw1), by omega, by omega, fun q => by have := hF1 _ q; omega, fun q => by have := hF1 _ q; omega, Nat.le_refl _, by omega, by omega⟩
  have HP0 := hide (HP.out)
  have HBW := hide (HB.out.trans (hB1.mono hw1))
  have hcs := cs.cell
  clear p1 p2 p3 hF1 ho hv c3 hB1 hm hfo hfv
  refine wpIn_rangeFunc_ownH (F := Fence.wide) (n := 3) (α := ItT) rfl (by omega) (gf := 89) (lb := #[.pointer (some ⟨w1.heap.size + 1, 0, none⟩)]) rfl trivial (enters_of Try.func89 (by kernel_rfl) rfl)
    (all_stops HP.out hrng HBW.out (by omega) hcs) KpC.trans (KpC.put (by omega) (by omega)) (Below.refl _ _) (fun _ => rfl)
    (fun pre W => ∃ F, CopyI W0.heap.size gq o v w1.heap.size (w1.heap.size + 1) w (pre.map fun x => x.1.2) F W) (fun _ _ _ => False)
    (fun s W W' row hs hg hr => by obtain ⟨F, hs⟩ := hs; exact ⟨F, hs.step hg hr⟩)
    (fun _ _ _ _ _ hs _ _ => hs) ⟨F', HI0.out⟩
    (fun x a' W => ∃ Bx, Blk W Bx 86 x.1.2.cells.toArray ∧ a' = { tmps := #[.pointer (some ⟨g, 0, none⟩), undef, .pointer none, .pointer (some ⟨w1.heap.size, 0, none⟩), undef, .pointer (some ⟨Bx, 0, none⟩), .pointer (some ⟨g, 0, none⟩), .bool false, .pointer (some ⟨gq, 0, none⟩), .pointer (some ⟨g, 0, none⟩), .func (.func 89) #[] #[.pointer (some ⟨w1.heap.size + 1, 0, none⟩)], .int .i64 (x.1.1 : Int), termV x.1.2, undef, undef, undef, undef], defers := [] })
    (fun x a' _ W W' row hs hg hr => by
      obtain ⟨Bx, h1, h2⟩ := hs
      refine ⟨Bx, (hg.block Bx h1.lt (fun e => ?_)).trans h1, h2⟩
      obtain ⟨_, ob, h3, h4⟩ := hr Bx e.symm
      rw [show W.heap[Bx]? = _ from h1] at h3
      cases h3
      cases h4)
    ?assign ?body ?done ?stop
  case assign =>
    rintro l pre x W K ⟨F, hi⟩ hK
    obtain ⟨⟨i, t⟩, hw⟩ := x
    unfold encI termV TD.cells
    gi_wp2
    exact hK _ _ ((KeepsOthers.alloc _ _).from _) ⟨(Below.refl _ W).alloc hi.below.size _, Below.heap_alloc W _ _ (Nat.lt_of_lt_of_le hi.bs hi.size)⟩ ⟨F, hi.step (World.grownBy_alloc W _ none) (fun r e => by cases e)⟩ ⟨W.heap.size, Blk.new W _ _, rfl⟩
  case body =>
    rintro l pre x a' W hl hrec ⟨F, hi⟩ ⟨Bx, hbx, rfl⟩ hlen
    obtain ⟨⟨i, t⟩, htw⟩ := x
    have hc3 := hi.box.cell
    have HI := hide hi
    have HX := hide hbx
    clear hi hrec hbx
    dsimp only
    gi_wp2_with (first
      | (refine wpListIn_load_at rfl 86 (.tmp 5) rfl _ (by rfl) t.cells _ (blk_list HX.out) Try.underlying86 rfl sizT ?_)
      | fail)
    refine ⟨trivial, (CallsIn.inRound l (callsIn_wide.2 (put_strong t htw W HI.out.pool HI.out.below.size))).mono ?_⟩
    rintro e W2 ⟨⟨rfl, F2, hp, hc, hf⟩, h2, h3⟩
    have HJ := hide (HI.out.putp hp hc hf h2 h3)
    clear hp hc hf h2 h3
    gi_wp2
    have e : (pre ++ [(⟨(i, t), htw⟩ : ItT)]).map (fun x => x.1.2) = pre.map (fun x => x.1.2) ++ [t] := by simp
    have q := HJ.out.1
    rw [← e] at q
    exact ⟨HJ.out.2.1, HJ.out.2.2, q⟩
  case done =>
    rintro D xs W hD rfl ⟨F, hi⟩ hK
    rw [upI_map, List.take_length, ] at hi
    have hc3 := hi.box.cell
    have HI := hide hi
    clear hi
    gi_wp2
    refine ⟨by simp, .inl ⟨_, _, rfl, run_takeDeferred hK, ?_⟩⟩
    have h2 := HI.out.step (grownBy_putObj' W D (.deferred none)) (fun r e => by cases e; exact ⟨hD, _, hK, rfl⟩)
    exact ⟨_, results_tmp rfl _ _ _, gq, F, rfl, by have := h2.pool; rw [HS.out] at this; exact this, h2.below⟩
  case stop => rintro D c pre W hD _ h; exact h.elim
end Go.Proofs.Ytfjflefgclfbfaa
end
