/-
  Contracts: bits.Width, New, has, Len, Get, Deep, Wide. Conditions: those written in each statement.
-/
import Derived.Test.YtafbjcnonhpldaaTm
import Derived.Test.YtafbjcnonhpldaaMid
import Derived.Test.YtafbjcnonhpldaaQuiet
import Derived.Laws.Tables
namespace Go.Proofs.Ytafbjcnonhpldaa
open Go.RowKit
set_option linter.unusedVariables false
set_option linter.unusedSimpArgs false
theorem width_any (x : Int) (w : World) : Calls Try.prog 24 #[.int .i8 x] w fun e w' => e = .returned (.bool (wdB x)) ∧ w = w' := by
  cases h8 : (x == 8)
  · cases h16 : (x == 16)
    · cases h32 : (x == 32)
      · cases h64 : (x == 64)
        all_goals
          go_enter Try.func24, Try.ntmps24
          go_wp2
          go_ret
          exact ⟨by unfold wdB; simp [h8, h16, h32, h64], rfl⟩
      · go_enter Try.func24, Try.ntmps24
        go_wp2
        go_ret
        exact ⟨by unfold wdB; simp [h8, h16, h32], rfl⟩
    · go_enter Try.func24, Try.ntmps24
      go_wp2
      go_ret
      exact ⟨by unfold wdB; simp [h8, h16], rfl⟩
  · go_enter Try.func24, Try.ntmps24
    go_wp2
    go_ret
    exact ⟨by unfold wdB; simp [h8], rfl⟩
section
variable {w : World} {base g : Nat} {F : Nat → Prop} {p : PS}
theorem has_nil (k : Int) (w : World) : Calls Try.prog 19 #[.pointer none, .int .i64 k] w fun e w' => e = .returned (.bool false) ∧ w = w' := by
  go_enter Try.func19, Try.ntmps19
  go_wp2
  go_ret
  exact ⟨rfl, rfl⟩
theorem has_any (k : Int) (h : PoolAt w base F g p) : Calls Try.prog 19 #[.pointer (some ⟨g, 0, none⟩), .int .i64 k] w fun e w' => e = .returned (.bool (hasB p.T k)) ∧ w = w' := by
  obtain ⟨A, c, D, d, h1, h2, _, h4, h5, _⟩ := h.view
  have hf := h.few
  obtain ⟨n, hn⟩ : ∃ n, p.T.length = n := ⟨_, rfl⟩
  have HB := hide (show hasB p.T k = (decide (0 ≤ k) && decide (k < (n : Int))) by unfold hasB; rw [hn])
  rw [hn] at h1 h2 hf
  clear hn h h4 h5
  cases hk : decide (0 ≤ k)
  · have hk2 : decide (k < 0) = true := by simp at hk ⊢; omega
    go_enter Try.func19, Try.ntmps19
    go_wp2
    go_ret
    exact ⟨by rw [HB.out, hk]; rfl, rfl⟩
  · go_enter Try.func19, Try.ntmps19
    go_wp2
    go_ret
    exact ⟨by rw [HB.out, hk]; rfl, rfl⟩
theorem len_nil (w : World) : Calls Try.prog 11 #[.pointer none] w fun e w' => e = .returned (.int .i64 0) ∧ w = w' := by
  go_enter Try.func11, Try.ntmps11
  go_wp2
  go_ret
  exact ⟨rfl, rfl⟩
theorem len_any (h : PoolAt w base F g p) : Calls Try.prog 11 #[.pointer (some ⟨g, 0, none⟩)] w fun e w' => e = .returned (.int .i64 (p.T.length : Nat)) ∧ w = w' := by
  obtain ⟨A, c, D, d, h1, h2, _, h4, h5, _⟩ := h.view
  obtain ⟨n, hn⟩ : ∃ n, p.T.length = n := ⟨_, rfl⟩
  rw [hn] at h1 h2 ⊢
  clear hn h h4 h5
  go_enter Try.func11, Try.ntmps11
  go_wp2
  go_ret
  exact ⟨rfl, rfl⟩
theorem deep_nil (k : Int) (w : World) : Calls Try.prog 13 #[.pointer none, .int .i64 k] w fun e w' => e = .returned (.int .i64 0) ∧ w = w' := by
  go_enter Try.func13, Try.ntmps13
  go_wp2_with fail
  refine (has_nil k _).mono ?_
  rintro e w' ⟨rfl, rfl⟩
  go_wp2
  go_ret
  exact ⟨rfl, rfl⟩
theorem deep_any {k : Nat} {x : Int} (h : PoolAt w base F g p) (hx : p.D[k]? = some x) : Calls Try.prog 13 #[.pointer (some ⟨g, 0, none⟩), .int .i64 k] w fun e w' => e = .returned (.int .i64 x) ∧ w = w' := by
  have hk : k < p.T.length := by rw [← h.wf.len]; exact (List.getElem?_eq_some_iff.1 hx).1
  obtain ⟨ad, c, dd, d, t, x', h1, h2, h3, h4, _, _, _, hx', _, _, _, _, hc⟩ := h.at_ hk
  obtain rfl : x = x' := by rw [hx] at hx'; exact Option.some.inj hx'
  have H := hide h
  have hh : hasB p.T k = true := by unfold hasB; simp; exact hk
  have HH := hide hh
  have hf := h.few
  obtain ⟨n, hn⟩ : ∃ n, p.T.length = n := ⟨_, rfl⟩
  rw [hn] at h1 h2 h3 h4 hk hf
  clear hn h hx hx' hh
  have hkd : k < d := by omega
  go_enter Try.func13, Try.ntmps13
  go_wp2_with fail
  refine (has_any k H.out).mono ?_
  rintro e w' ⟨rfl, rfl⟩
  rw [HH.out]
  go_wp2
  go_ret
  exact ⟨rfl, rfl⟩
/-- A term that is not there. -/
def zeroT : TD := ⟨0, 0, 0, 0, 0, 0, 0⟩
theorem get_nil (k : Int) (w : World) : Calls Try.prog 12 #[.pointer none, .int .i64 k] w fun e w' => e = .returned (.tuple #[termV zeroT, .int .i64 1]) ∧ Below w.heap.size w w' := by
  go_enter Try.func12, Try.ntmps12
  go_wp2
  exact bodyPost_ret (v := .tuple #[termV zeroT, .int .i64 1]) (by simp [results, Try.results12, go_sem, termV, zeroT, TD.cells]) rfl ⟨rfl, (Below.refl _ _).alloc (Nat.le_refl _) _⟩
theorem get_none {k : Int} (h : PoolAt w base F g p) (hk : hasB p.T k = false) : Calls Try.prog 12 #[.pointer (some ⟨g, 0, none⟩), .int .i64 k] w fun e w' => e = .returned (.tuple #[termV zeroT, .int .i64 2]) ∧ Below w.heap.size w w' := by
  have H := hide h
  have HH := hide hk
  clear h hk
  go_enter Try.func12, Try.ntmps12
  go_wp2_with fail
  refine (has_any k (H.out.below ((Below.refl _ _).alloc (Nat.le_refl _) _))).mono ?_
  rintro e w' ⟨rfl, rfl⟩
  rw [HH.out]
  go_wp2
  exact bodyPost_ret (v := .tuple #[termV zeroT, .int .i64 2]) (by simp [results, Try.results12, go_sem, termV, zeroT, TD.cells]) rfl ⟨rfl, (Below.refl _ _).alloc (Nat.le_refl _) _⟩
end
theorem sizT : (Try.prog.info? 32).map (·.size) = some 7 := by kernel_rfl
abbrev TD.lit (t : TD) : List Value := [.int .i8 t.kind, .int .i8 t.op, .int .i8 t.w, .int .u64 t.n, .int .i64 t.a, .int .i64 t.b, .int .i64 t.c]
section
variable {w : World} {base g : Nat} {F : Nat → Prop} {p : PS}
theorem get_any {k : Nat} {t : TD} (h : PoolAt w base F g p) (ht : p.T[k]? = some t) : Calls Try.prog 12 #[.pointer (some ⟨g, 0, none⟩), .int .i64 k] w fun e w' => e = .returned (.tuple #[termV t, .int .i64 0]) ∧ Below w.heap.size w w' := by
  have hk : k < p.T.length := (List.getElem?_eq_some_iff.1 ht).1
  have H1 := h.below ((Below.refl _ _).alloc (Nat.le_refl _) (.cells #[.int .i8 0, .int .i8 0, .int .i8 0, .int .u64 0, .int .i64 0, .int .i64 0, .int .i64 0] 32))
  obtain ⟨ad, c, dd, d, t', x', h1, h2, _, _, _, _, ht', _, _, _, _, hc, _⟩ := H1.at_ hk
  obtain rfl : t = t' := by rw [ht] at ht'; exact Option.some.inj ht'
  have H := hide H1
  have hh : hasB p.T k = true := by unfold hasB; simp; exact hk
  have HH := hide hh
  have hf := h.few
  obtain ⟨n, hn⟩ : ∃ n, p.T.length = n := ⟨_, rfl⟩
  rw [hn] at h1 h2 hk hf
  have HC := hide hc
  clear hn h ht' ht hh H1 hc
  have hkd : k < c := by omega
  go_enter Try.func12, Try.ntmps12
  go_wp2_with fail
  refine (has_any k H.out).mono ?_
  rintro e w' ⟨rfl, rfl⟩
  rw [HH.out]
  go_wp2_with (first
    | (refine wpList_load_at rfl 32 (.tmp 21) rfl (ad.add (k * 7)) (by rfl) t.lit _ HC.out Try.underlying32 rfl sizT ?_)
    | fail)
  exact bodyPost_ret (v := .tuple #[termV t, .int .i64 0]) (by simp [results, Try.results12, go_sem, termV, TD.cells]) rfl ⟨rfl, ((Below.refl _ _).alloc (Nat.le_refl _) _)⟩
theorem wide_nil (k : Int) (w : World) : Calls Try.prog 16 #[.pointer none, .int .i64 k] w fun e w' => e = .returned (.int .i8 0) ∧ w = w' := by
  go_enter Try.func16, Try.ntmps16
  go_wp2_with fail
  refine (has_nil k _).mono ?_
  rintro e w' ⟨rfl, rfl⟩
  go_wp2
  go_ret
  exact ⟨rfl, rfl⟩
end
theorem build_pool (a b : Option Nat) (w : World) : (Instr.build 48 #[(2, .map a), (3, .map b)]).run Try.prog w = .ok (.agg #[.slice none 0 0, .slice none 0 0, .map a, .map b]) w := run_build w 48 _ _ (by kernel_rfl)
theorem empty_of (x : TD) : (none : Option Value) = ofF [] x := rfl
theorem empty_wd (x : Int) : (none : Option Value) = wdF [] x := rfl
/-- A pool just made. -/
theorem pool_new (w : World) : PoolAt (((w.alloc (.map #[] 0)).alloc (.map #[] 0)).alloc (.cells #[.slice none 0 0, .slice none 0 0, .map (some w.heap.size), .map (some (w.heap.size + 1))] 48)) w.heap.size (fun b => w.heap.size ≤ b ∧ b < w.heap.size + 3) (w.heap.size + 2) ⟨[], []⟩ := by
  have e1 : (w.alloc (.map #[] 0)).heap.size = w.heap.size + 1 := by simp
  have e2 : ((w.alloc (.map #[] 0)).alloc (.map #[] 0)).heap.size = w.heap.size + 2 := by simp
  have m1 : MapIs Try.prog 32 termV TD.wf (w.alloc (.map #[] 0)) w.heap.size 0 (fun _ => none) := MapIs.new w
  have m2 : MapIs Try.prog 30 (Value.int .u64) U64 ((w.alloc (.map #[] 0)).alloc (.map #[] 0)) (w.heap.size + 1) 0 (fun _ => none) := by
    have := MapIs.new (P := Try.prog) (k := 30) (enc := Value.int .u64) (V := U64) (w.alloc (.map #[] 0))
    rw [e1] at this
    exact this
  have b3 := Blk.new ((w.alloc (.map #[] 0)).alloc (.map #[] 0)) 48 #[.slice none 0 0, .slice none 0 0, .map (some w.heap.size), .map (some (w.heap.size + 1))]
  rw [e2] at b3
  have s1 := Stamped.new w
  refine ⟨⟨.slice none 0 0, .slice none 0 0, w.heap.size, w.heap.size + 1, b3, ⟨rfl, .inl ⟨rfl, rfl⟩⟩, ⟨rfl, .inl ⟨rfl, rfl⟩⟩, (m1.alloc _).alloc _, m2.alloc _, ?_, by omega, ?_, ?_, ?_, ?_, ?_⟩, WfP.nil, by simp, fun b hb => by simp; omega⟩
  · exact s1.block_ (by rw [Below.heap_alloc _ _ _ (by simp; omega), Below.heap_alloc _ _ _ (by simp)])
  · omega
  · omega
  · omega
  · intro b hb; simp [Value.ownBlock] at hb
  · intro b hb; simp [Value.ownBlock] at hb
theorem new_any (w : World) : Calls Try.prog 8 #[] w fun e w' => ∃ g F, e = .returned (.pointer (some ⟨g, 0, none⟩)) ∧ PoolAt w' w.heap.size F g ⟨[], []⟩ ∧ Below w.heap.size w w' := by
  have hbd := fun (a b : Option Nat) (w : World) => build_pool a b w
  have hm1 : ∀ w : World, (Instr.makeMap 45 none).run Try.prog w = .ok (.map (some w.heap.size)) (w.alloc (.map #[] 0)) := fun _ => rfl
  have hm2 : ∀ w : World, (Instr.makeMap 46 none).run Try.prog w = .ok (.map (some w.heap.size)) (w.alloc (.map #[] 0)) := fun _ => rfl
  go_enter Try.func8, Try.ntmps8
  go_wp2
  go_ret
  refine ⟨w.heap.size + 2, _, ?_, pool_new w, (((Below.refl _ _).alloc (Nat.le_refl _) _).alloc (by simp) _).alloc (by simp; omega) _⟩
  rfl
end Go.Proofs.Ytafbjcnonhpldaa
