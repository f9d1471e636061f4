/-
  The iterator of a pool: its terms in order, for whatever body that keeps the pool and the iterator's box. Conditions: those written in each statement.
-/
import Derived.Test.YtafbjcnonhpldaaAo
namespace Go.Proofs.Ytafbjcnonhpldaa
open Go.RowKit Go.Shelf
attribute [local go_sem] Oper.semAt_some
set_option linter.unusedVariables false
set_option linter.unusedSimpArgs false
theorem wpListIn_load_at {F : Fence} {n : Nat} {P : Program} {ops : Array Oper} {rest : List Oper} {o : Oper} {a : Act} {w : World} {Q : Exit → Act → World → Prop} (hgd : o.guard = none) (ty : TypeId) (x : Operand) (ho : o.op = .load ty x)
    (ad : Addr) (hx : a.eval x = .pointer (some ad)) (cs : List Value) (d : TypeDesc) (hc : ∀ j u, cs[j]? = some u → w.cell? (ad.add j) = some u)
    (hu : P.underlying ty = some d) (hd : aggD d = true) (hi : (P.info? ty).map (·.size) = some cs.length)
    (h : wpListIn F n P ops Q rest (a.put o.dst (.agg cs.toArray)) w) : wpListIn F n P ops Q (o :: rest) a w := by
  refine wpListIn_plain hgd fun K hK => ?_
  unfold Oper.wpIn
  refine ⟨by simp [Oper.about, ho], ?_⟩
  rw [Oper.semAt_plain F _ _ (by rw [ho]; intro c hc'; cases hc')]
  unfold execOp
  simp only [ho, hx, Instr.loadAt, Instr.sureAddr, Sem.run_bind, Sem.run_pure, Result.andThen_ok, run_loadVar_at w ad ty cs d hc hu hd hi]
  exact hK _ _ h
/-- What a round keeps: what lay below n₀, and the iterator's box. -/
def KpC (n₀ Bs : Nat) (W W' : World) : Prop := Below n₀ W W' ∧ W'.heap[Bs]? = W.heap[Bs]?
theorem KpC.trans {n₀ Bs : Nat} {A B C : World} (h : KpC n₀ Bs A B) (k : KpC n₀ Bs B C) : KpC n₀ Bs A C := ⟨h.1.trans k.1, k.2.trans h.2⟩
theorem KpC.put {n₀ Bs : Nat} {w : World} (hn : n₀ ≤ w.heap.size) (hB : Bs < w.heap.size) (W : World) (l : Nat) (o o' : Obj) (hl : w.heap.size ≤ l) (h : W.heap[l]? = some o) (h1 : o.isCells = false) (h2 : o.isWalk = false) : KpC n₀ Bs W (W.putObj l o') :=
  ⟨belowK_b hn W l o o' hl h h1 h2, (grownBy_putObj' W l o').block Bs (by have := (Array.getElem?_eq_some_iff.1 h).1; omega) (fun e => by cases e; omega)⟩
/-- What the iterator hands on: a term's number, the term. -/
abbrev ItT := { x : Nat × TD // x.2.wf }
def encI (x : ItT) : Array Value := #[.int .i64 (x.1.1 : Int), termV x.1.2]
/-- The first k terms. -/
def upI (T : List TD) (h : ∀ t ∈ T, t.wf) (k : Nat) : List ItT := (T.take k).attach.zipIdx.map fun p => ⟨(p.2, p.1.1), h p.1.1 (List.mem_of_mem_take p.1.2)⟩
theorem upI_len (T : List TD) (h : ∀ t ∈ T, t.wf) (k : Nat) (hk : k ≤ T.length) : (upI T h k).length = k := by unfold upI; simp; omega
theorem upI_map (T : List TD) (h : ∀ t ∈ T, t.wf) (k : Nat) : (upI T h k).map (fun x => x.1.2) = T.take k := by
  unfold upI
  rw [List.map_map, show ((fun x : ItT => x.1.2) ∘ fun p : { x // x ∈ T.take k } × Nat => (⟨(p.2, p.1.1), h p.1.1 (List.mem_of_mem_take p.1.2)⟩ : ItT)) = (fun y => y.1) ∘ (fun p => p.1) from rfl, ← List.map_map]
  simp
theorem upI_succ (T : List TD) (h : ∀ t ∈ T, t.wf) (k : Nat) (t : TD) (hw : t.wf) (ht : T[k]? = some t) : upI T h (k + 1) = upI T h k ++ [⟨(k, t), hw⟩] := by
  have hk : k < T.length := (List.getElem?_eq_some_iff.1 ht).1
  refine List.ext_getElem? fun i => ?_
  unfold upI
  simp only [List.getElem?_map, List.getElem?_zipIdx]
  rcases Nat.lt_trichotomy i k with hi | rfl | hi
  · rw [List.getElem?_append_left (by simp; omega)]
    simp only [List.getElem?_map, List.getElem?_zipIdx]
    rw [List.getElem?_eq_getElem (by simp; omega), List.getElem?_eq_getElem (by simp; omega)]
    simp
  · rw [List.getElem?_append_right (by simp; omega)]
    rw [List.getElem?_eq_getElem (by simp; omega)]
    simp [Nat.min_eq_left (Nat.le_of_lt hk)]
    rw [List.getElem?_eq_some_iff] at ht
    exact ht.2
  · rw [List.getElem?_append_right (by simp; omega), List.getElem?_eq_none (by simp; omega)]
    rw [List.getElem?_eq_none (by simp; omega)]
    rfl
set_option maxRecDepth 100000 in
set_option maxHeartbeats 4000000 in
theorem all1_any {base g Bs n l : Nat} {Fo : Nat → Prop} {p : PS} {w0 : World} (hp : PoolAt w0 base Fo g p) (hrng : ∀ t ∈ p.T, t.wf) (J Jx : List ItT → World → Prop)
    (hY : ∀ pre x W, J pre W → pre.length < p.T.length → YieldAt Fence.wide (n - 1) Try.prog l (encI x) W fun e W' =>
      (e = .returned (.bool true) ∧ J (pre ++ [x]) W' ∧ KpC w0.heap.size Bs W W') ∨ (e = .returned (.bool false) ∧ Jx (pre ++ [x]) W'))
    (W : World) (hb : Below w0.heap.size w0 W) (hBs : W.cell? ⟨Bs, 0, none⟩ = some (.pointer (some ⟨g, 0, none⟩))) (h0 : J [] W) :
    CallsIn Fence.wide n Try.prog 25 #[.func (.yield l) #[] #[], .pointer (some ⟨Bs, 0, none⟩)] W fun e W' => (∃ v, e = .returned v) ∧
      ((∃ xs, xs = upI p.T hrng p.T.length ∧ J xs W') ∨ (∃ pre, (∃ k, k ≤ p.T.length ∧ pre = upI p.T hrng k) ∧ Jx pre W')) := by
  have HP := hide hp
  have HBW := hide hb
  have HBC := hide hBs
  have HR := hide (upI_succ p.T hrng)
  have hfew := hp.few
  refine callsIn_of_wp Try.func25 rfl trivial ?_ rfl
  simp only [Try.ntmps25, List.size_toArray, List.length_cons, List.length_nil, Nat.reduceAdd, Nat.reduceSub, Array.replicate_succ, Array.replicate_zero, List.push_toArray, List.append_toArray, List.nil_append, List.cons_append]
  clear hp hb
  gi_wp2
  refine ⟨trivial, fun h => (by cases h), (callsIn_wide.2 (len_any (HP.out.below HBW.out))).mono ?_⟩
  rintro e w2 ⟨rfl, rfl⟩
  gi_wp2
  gi_loopw [6] (fun iv wr => ∃ k : Nat, k ≤ p.T.length ∧ iv = .int .i64 (k : Int) ∧ Below w0.heap.size w0 wr ∧ wr.cell? ⟨Bs, 0, none⟩ = some (.pointer (some ⟨g, 0, none⟩)) ∧ J (upI p.T hrng k) wr) (fun iv _ => p.T.length - (intOf iv).toNat)
  case atStart => exact ⟨0, by omega, rfl, HBW.out, HBC.out, h0⟩
  case round =>
    obtain ⟨k, hk, rfl, hb, hc, hJ⟩ := hrel
    clear HBW HBC hBs h0
    by_cases hlt : k < p.T.length
    · have H := hide (HP.out.below hb)
      obtain ⟨ad, c, dd, d, t, x', h1, h2, _, _, _, _, ht, _, htw, _, _, hat, _⟩ := H.out.at_ hlt
      have HC := hide hat
      have HN := hide (HR.out k t htw ht)
      have hkc : k < c := by omega
      have hl := upI_len p.T hrng k hk
      obtain ⟨fn, tmps, assign, body, hy, hRd⟩ := hY (upI p.T hrng k) ⟨(k, t), htw⟩ wr hJ (by omega)
      have HRD := hide hRd
      have hbo := hide hb
      clear hat ht hb hRd
      unfold encI termV at hy
      dsimp only at hy
      gi_wp2_with (first
        | (refine wpListIn_load_at rfl 32 (.tmp 16) rfl (ad.add (k * 7)) (by rfl) t.cells _ HC.out Try.underlying32 rfl sizT ?_)
        | fail)
      refine ⟨fun h => (by cases h), HRD.out.mono ?_⟩
      rintro e W3 (⟨rfl, hJ3, hk3⟩ | ⟨rfl, hJx3⟩)
      · have hc3 : W3.cell? ⟨Bs, 0, none⟩ = some (.pointer (some ⟨g, 0, none⟩)) := (World.cell?_of_block hk3.2).trans hc
        have hb3 := hide (hbo.out.trans hk3.1)
        have hJ3' := hide hJ3
        clear hJ3 hk3 HRD hJ hy
        gi_wp2
        go_roundw
        case rel => exact ⟨k + 1, by omega, by go_num, hb3.out, hc3, by rw [HN.out]; exact hJ3'.out⟩
        case measure => simp [intOf]; omega
      · have hJ3' := hide hJx3
        clear hJx3 HRD hJ hy
        gi_wp2
        refine bodyPost_ret (results_none rfl _ _ _) rfl ?_
        refine ⟨⟨_, rfl⟩, .inr ⟨upI p.T hrng (k + 1), ⟨k + 1, by omega, rfl⟩, by rw [HN.out]; exact hJ3'.out⟩⟩
    · obtain rfl : k = p.T.length := by omega
      gi_wp2
      go_end0
      exact ⟨⟨_, rfl⟩, .inl ⟨_, rfl, hJ⟩⟩
theorem all_stops {base g Bs n : Nat} {Fo : Nat → Prop} {p : PS} {w0 w : World} (hp : PoolAt w0 base Fo g p) (hrng : ∀ t ∈ p.T, t.wf) (hb : Below w0.heap.size w0 w) (hB : Bs < w.heap.size) (hc : w.cell? ⟨Bs, 0, none⟩ = some (.pointer (some ⟨g, 0, none⟩))) :
    SeqStopsK Fence.wide n Try.prog 25 #[.pointer (some ⟨Bs, 0, none⟩)] encI (KpC w0.heap.size Bs) (fun xs => xs = upI p.T hrng p.T.length) (fun pre => ∃ k, k ≤ p.T.length ∧ pre = upI p.T hrng k) p.T.length w := fun l J Jx W hW _ _ hY h0 =>
  all1_any hp hrng J Jx hY W (hb.trans (hW.mono hb.size)) ((hW.cell (p := ⟨Bs, 0, none⟩) hB).trans hc) h0
end Go.Proofs.Ytafbjcnonhpldaa
