/-
  Copy's walk. Conditions: those written in each statement.
-/
import Derived.Test.YtafbjcnonhpldaaCp
namespace Go.Proofs.Ytafbjcnonhpldaa
open Go.RowKit Go.Shelf
attribute [local go_sem] Oper.semAt_some
set_option linter.unusedVariables false
set_option linter.unusedSimpArgs false
set_option maxRecDepth 100000 in
set_option maxHeartbeats 4000000 in
theorem copy_any {base g : Nat} {Fo : Nat → Prop} {p : PS} (w : World) (h : PoolAt w base Fo g p) :
    Calls Try.prog 10 #[.pointer (some ⟨g, 0, none⟩)] w fun e w' => ∃ g' F', e = .returned (.pointer (some ⟨g', 0, none⟩)) ∧ PoolAt w' w.heap.size F' g' p ∧ Below w.heap.size w w' := by
  have HP := hide h
  have hrng := h.rng
  have hself := putAll_self h.wf
  have HS := hide hself
  clear h hself
  refine (callsIn_wide (n := 3)).1 ?_
  refine callsIn_of_wp_marks Try.func10 rfl trivial ?_ rfl
  simp only [Try.ntmps10, List.size_toArray, List.length_cons, List.length_nil, Nat.reduceAdd, Nat.reduceSub, Array.replicate_succ, Array.replicate_zero, List.push_toArray, List.append_toArray, List.nil_append, List.cons_append]
  gi_wp2
  refine ⟨trivial, (callsIn_wide.2 (new_any _)).mono ?_⟩
  rintro e w1 ⟨gq, F, rfl, hp, hb⟩
  have HN := hide hp
  have HB := hide hb
  clear hp hb
  gi_wp2
  refine ⟨trivial, (callsIn_wide.2 (all_any (some ⟨g, 0, none⟩) _)).mono ?_⟩
  rintro e w2 ⟨rfl, rfl⟩
  gi_wp2
  obtain ⟨o, v, hm, hfo, hfv⟩ := HN.out.maps
  obtain ⟨F', p1, p2, p3⟩ := HN.out.tight hm
  have hF1 := fun b q => HN.out.fb b (p2 b q)
  have ho := HN.out.fb o hfo
  have hv := HN.out.fb v hfv
  have c3 := (Boxed.new w1 24 (.pointer (some ⟨gq, 0, none⟩))).alloc (.cells #[.pointer (some ⟨g, 0, none⟩)] 24)
  have cs := Boxed.new (w1.alloc (.cells #[.pointer (some ⟨gq, 0, none⟩)] 24)) 24 (.pointer (some ⟨g, 0, none⟩))
  have hB1 : Below w1.heap.size w1 ((w1.alloc (.cells #[.pointer (some ⟨gq, 0, none⟩)] 24)).alloc (.cells #[.pointer (some ⟨g, 0, none⟩)] 24)) :=
    ((Below.refl _ w1).alloc (Nat.le_refl _) _).alloc (by simp) _
  simp only [World.size_alloc] at c3 cs
  generalize hW0 : (w1.alloc (.cells #[.pointer (some ⟨gq, 0, none⟩)] 24)).alloc (.cells #[.pointer (some ⟨g, 0, none⟩)] 24) = W0 at c3 cs hB1 ⊢
  have hsz : W0.heap.size = w1.heap.size + 2 := by rw [← hW0]; simp
  clear hW0
  have hw1 := HB.out.size
  have hgq : gq < w1.heap.size := by obtain ⟨_, _, _, _, h1, _⟩ := HN.out.ex; exact h1.lt
  have HI0 : Hid (CopyI W0.heap.size gq o v w1.heap.size (w1.heap.size + 1) w [] F' W0) :=
    ⟨p1.below hB1, ⟨(hB1.cell (p := ⟨gq, 2, none⟩) hgq).trans hm.1, (hB1.cell (p := ⟨gq, 3, none⟩) hgq).trans hm.2⟩, fun b q => by
        rcases p3 b q with e | e | ⟨ob, h4, h5⟩
        · exact .inl e
        · exact .inr (.inl e)
        · exact .inr (.inr ⟨ob, (hB1.block b (hF1 b q).2).trans h4, h5⟩), c3, HB.out.trans (hB1.mono hw1), by omega, by omega, fun q => by have := hF1 _ q; omega, fun q => by have := hF1 _ q; omega, Nat.le_refl _, by omega, by omega⟩
  have HP0 := hide (HP.out)
  have HBW := hide (HB.out.trans (hB1.mono hw1))
  have hcs := cs.cell
  clear p1 p2 p3 hF1 ho hv c3 hB1 hm hfo hfv
  refine wpIn_rangeFunc_ownH (F := Fence.wide) (n := 3) (α := ItT) rfl (by omega) (gf := 25) (lb := #[.pointer (some ⟨w1.heap.size + 1, 0, none⟩)]) rfl trivial (enters_of Try.func25 (by kernel_rfl) rfl)
    (all_stops HP.out hrng HBW.out (by omega) hcs) KpC.trans (KpC.put (by omega) (by omega)) (Below.refl _ _) (fun _ => rfl)
    (fun pre W => ∃ F, CopyI W0.heap.size gq o v w1.heap.size (w1.heap.size + 1) w (pre.map fun x => x.1.2) F W) (fun _ _ _ => False)
    (fun s W W' row hs hg hr => by obtain ⟨F, hs⟩ := hs; exact ⟨F, hs.step hg hr⟩)
    (fun _ _ _ _ _ hs _ _ => hs) ⟨F', HI0.out⟩
    (fun x a' W => ∃ Bx, Blk W Bx 32 x.1.2.cells.toArray ∧ a' = { tmps := #[.pointer (some ⟨g, 0, none⟩), undef, .pointer none, .pointer (some ⟨w1.heap.size, 0, none⟩), undef, .pointer (some ⟨Bx, 0, none⟩), .pointer (some ⟨g, 0, none⟩), .bool false, .pointer (some ⟨gq, 0, none⟩), .pointer (some ⟨g, 0, none⟩), .func (.func 25) #[] #[.pointer (some ⟨w1.heap.size + 1, 0, none⟩)], .int .i64 (x.1.1 : Int), termV x.1.2, undef, undef, undef, undef], defers := [] })
    (fun x a' _ W W' row hs hg hr => by
      obtain ⟨Bx, h1, h2⟩ := hs
      refine ⟨Bx, (hg.block Bx h1.lt (fun e => ?_)).trans h1, h2⟩
      obtain ⟨_, ob, h3, h4⟩ := hr Bx e.symm
      rw [show W.heap[Bx]? = _ from h1] at h3
      cases h3
      cases h4)
    ?assign ?body ?done ?stop
  case assign =>
    rintro l pre x W K ⟨F, hi⟩ hK
    obtain ⟨⟨i, t⟩, hw⟩ := x
    unfold encI termV TD.cells
    gi_wp2
    exact hK _ _ ((KeepsOthers.alloc _ _).from _) ⟨(Below.refl _ W).alloc hi.below.size _, Below.heap_alloc W _ _ (Nat.lt_of_lt_of_le hi.bs hi.size)⟩ ⟨F, hi.step (World.grownBy_alloc W _ none) (fun r e => by cases e)⟩ ⟨W.heap.size, Blk.new W _ _, rfl⟩
  case body =>
    rintro l pre x a' W hl hrec ⟨F, hi⟩ ⟨Bx, hbx, rfl⟩ hlen
    obtain ⟨⟨i, t⟩, htw⟩ := x
    have hc3 := hi.box.cell
    have HI := hide hi
    have HX := hide hbx
    clear hi hrec hbx
    dsimp only
    gi_wp2_with (first
      | (refine wpListIn_load_at rfl 32 (.tmp 5) rfl _ (by rfl) t.cells _ (blk_list HX.out) Try.underlying32 rfl sizT ?_)
      | fail)
    refine ⟨trivial, (CallsIn.inRound l (callsIn_wide.2 (put_strong t htw W HI.out.pool HI.out.below.size))).mono ?_⟩
    rintro e W2 ⟨⟨rfl, F2, hp, hc, hf⟩, h2, h3⟩
    have HJ := hide (HI.out.putp hp hc hf h2 h3)
    clear hp hc hf h2 h3
    gi_wp2
    have e : (pre ++ [(⟨(i, t), htw⟩ : ItT)]).map (fun x => x.1.2) = pre.map (fun x => x.1.2) ++ [t] := by simp
    have q := HJ.out.1
    rw [← e] at q
    exact ⟨HJ.out.2.1, HJ.out.2.2, q⟩
  case done =>
    rintro D xs W hD rfl ⟨F, hi⟩ hK
    rw [upI_map, List.take_length, ] at hi
    have hc3 := hi.box.cell
    have HI := hide hi
    clear hi
    gi_wp2
    refine ⟨by simp, .inl ⟨_, _, rfl, run_takeDeferred hK, ?_⟩⟩
    have h2 := HI.out.step (grownBy_putObj' W D (.deferred none)) (fun r e => by cases e; exact ⟨hD, _, hK, rfl⟩)
    exact ⟨_, results_tmp rfl _ _ _, gq, F, rfl, by have := h2.pool; rw [HS.out] at this; exact this, h2.below⟩
  case stop => rintro D c pre W hD _ h; exact h.elim
end Go.Proofs.Ytafbjcnonhpldaa
