/-
  Contract: parts. Conditions: those written in each statement.
-/
import Derived.Test.YtepagfkkjlbipaaGreatKah
import Derived.Deep.RegionHeld3
import Derived.Deep.CutRange
import Derived.Deep.CutBlock
import Derived.Deep.DrawnRows
set_option linter.unusedVariables false
set_option linter.unusedSimpArgs false
set_option maxHeartbeats 64000000
set_option maxRecDepth 100000
namespace Go.Proofs.YtepagfkkjlbipaaGreat
open Tryz
open Go.RowKit
attribute [local go_sem ↓] Go.wp_at_zero Go.wp_at_succ
theorem build_kind (k : Int) (w : World) : (Instr.build 147 #[(0, .int .i8 k)]).run prog w = .ok (.agg #[.int .i8 k, .int .i8 0, .int .i8 0, .int .u64 0, .int .i64 0, .int .i64 0, .int .i64 0]) w := run_build w 147 _ _ (by kernel_rfl)
def preT (t : TD) : TD := { likeT t with a := 0, b := 0, c := 0 }
def preK (t : TD) (k : Nat) : TD := { likeT t with a := if 0 < k then (likeT t).a else 0, b := if 1 < k then (likeT t).b else 0, c := if 2 < k then (likeT t).c else 0 }
def wideT (x : Int) : Bool := x == 32 || x == 64
structure PF (t u : TD) (b0 g : Nat) (w wc : World) : Prop where
 one : Blk wc b0 147 t.cells.toArray
 two : Blk wc g 147 u.cells.toArray
 below : Below w.heap.size w wc
 b0 : b0 = w.heap.size
 g : g = w.heap.size + 1
section
variable {t u u' : TD} {b0 g : Nat} {w wc : World}
theorem PF.ne (h : PF t u b0 g w wc) : b0 ≠ g := by rw [h.b0, h.g]; omega
theorem PF.lt (h : PF t u b0 g w wc) : w.heap.size + 2 ≤ wc.heap.size := by have := h.two.lt; rw [h.g] at this; omega
theorem PF.drew (h : PF t u b0 g w wc) : PF t u b0 g w wc.drew := ⟨h.one, h.two, h.below.drew, h.b0, h.g⟩
theorem PF.set (h : PF t u b0 g w wc) (j : Nat) (v : Value) (hu : u.cells.set j v = u'.cells) : PF t u' b0 g w (wc.setCell ⟨g, j, none⟩ v) := by
 refine ⟨h.one.far h.ne v, ?_, h.below.setCell (by rw [h.g]; simp) v, h.b0, h.g⟩
 have := h.two.set_ j v
 rw [← hu]
 simpa using this
theorem PF.step (h : PF t u b0 g w wc) {w' : World} (hb : Below wc.heap.size wc w') : PF t u b0 g w w' := ⟨h.one.below hb h.one.lt, h.two.below hb h.two.lt, h.below.trans (hb.mono h.below.size), h.b0, h.g⟩
end
theorem PF.store {t u : TD} {b0 g : Nat} {w wc w' : World} (h : PF t u b0 g w wc) (hb : Blk w' g 147 u.cells.toArray) (hg : wc.grownBy w' (some g)) : PF t u b0 g w w' :=
 ⟨h.one.grown hg (fun e => by injection e with e; exact h.ne e), hb, h.below.grown hg (by have := h.lt; omega) (fun k e => by injection e with e; have := h.g; omega), h.b0, h.g⟩
def NumsAt (w : World) (B : Nat) (s : Value) (l : List Int) : Prop := ∃ A c, s = .slice A l.length c ∧ l.length ≤ c ∧ Reads w w.heap.size 1 A l.length (l.map (Value.int .i64)) ∧ ∀ ad, A = some ad → B ≤ ad.block
section
variable {w w' : World} {B : Nat} {s : Value} {l : List Int}
theorem NumsAt.nil (w : World) (B : Nat) : NumsAt w B (.slice none 0 0) [] := ⟨none, 0, rfl, Nat.le_refl _, Reads.none_, by simp⟩
theorem NumsAt.new (w : World) (hB : B ≤ w.heap.size) (l : List Int) : NumsAt (w.alloc (.cells (l.map (Value.int .i64)).toArray 3)) B (.slice (some ⟨w.heap.size, 0, none⟩) l.length l.length) l :=
 ⟨_, _, rfl, Nat.le_refl _, reads_new w 3 (l.map (Value.int .i64)) l.length (by simp), fun ad e => by injection e with e; rw [← e]; exact hB⟩
theorem NumsAt.keep (h : NumsAt w B s l) (hz : w.heap.size ≤ w'.heap.size) (hb : ∀ i, B ≤ i → i < w.heap.size → w'.heap[i]? = w.heap[i]?) : NumsAt w' B s l := by
 obtain ⟨A, c, h1, h2, h3, h4⟩ := h
 refine ⟨A, c, h1, h2, ⟨h3.1, fun hn => ?_⟩, h4⟩
 obtain ⟨ad, e, hlt, hc⟩ := h3.2 hn
 refine ⟨ad, e, by omega, fun j u hu => ?_⟩
 exact (World.cell?_of_block (by rw [block_of_add]; exact hb _ (h4 ad e) hlt)).trans (hc j u hu)
theorem NumsAt.far (h : NumsAt w B s l) {p : Addr} (hp : p.block < B) (v : Value) : NumsAt (w.setCell p v) B s l := h.keep (by simp) (fun i hi _ => Below.heap_setCell w p v i (by omega))
theorem NumsAt.drew (h : NumsAt w B s l) : NumsAt w.drew B s l := h
theorem NumsAt.step (h : NumsAt w B s l) (hb : Below w.heap.size w w') : NumsAt w' B s l := h.keep hb.size (fun i _ hi => hb.block i hi)
theorem NumsAt.at_ {A : Option Addr} {n c k : Nat} (h : NumsAt w B (.slice A n c) l) (hk : k < n) : ∃ ad x, A = some ad ∧ B ≤ ad.block ∧ l[k]? = some x ∧ n ≤ c ∧ l.length = n ∧ w.cell? (ad.add k) = some (.int .i64 x) := by
 obtain ⟨A', c', h1, h2, h3, h4⟩ := h
 injection h1 with e1 e2 e3
 subst e1 e2 e3
 obtain ⟨ad, u, e, hb, hx, hc⟩ := h3.at_ hk
 have hx' : l[k]? = some l[k] := List.getElem?_eq_getElem hk
 rw [List.getElem?_map, hx'] at hx
 injection hx with hx
 subst hx
 exact ⟨ad, _, e, h4 ad e, hx', h2, rfl, hc⟩
end
theorem prtL_len (t : TD) : (prtL t).length ≤ 3 := by
 unfold prtL
 split
 ·simp
 ·split
  ·simp
  ·split <;> simp
theorem preK_set (t : TD) {k : Nat} {x : Int} (h : (prtL t)[k]? = some x) : (preK t k).cells.set (4 + k) (.int .i64 x) = (preK t (k + 1)).cells := by
 have hk : k < 3 := by have := (List.getElem?_eq_some_iff.1 h).1; have := prtL_len t; omega
 have hx : x = if k = 0 then (likeT t).a else if k = 1 then (likeT t).b else (likeT t).c := by
  unfold prtL at h
  unfold likeT
  by_cases h24 : t.kind = 2 ∨ t.kind = 4
  ·rw [if_pos h24] at h
   have h0 : ¬ t.kind = 0 := by omega
   have h1 : ¬ t.kind = 1 := by omega
   rcases h24 with h2 | h4
   ·rcases (show k = 0 ∨ k = 1 ∨ k = 2 by omega) with rfl | rfl | rfl <;> simp at h <;> simp [h0, h1, h2, h]
   ·rcases (show k = 0 ∨ k = 1 ∨ k = 2 by omega) with rfl | rfl | rfl <;> simp at h <;> simp [h0, h1, h4, h]
  ·rw [if_neg h24] at h
   by_cases h3 : t.kind = 3
   ·rw [if_pos h3] at h
    rcases (show k = 0 ∨ k = 1 ∨ k = 2 by omega) with rfl | rfl | rfl <;> simp at h <;> simp [h3, h]
   ·rw [if_neg h3] at h
    by_cases h5 : t.kind = 5
    ·rw [if_pos h5] at h
     rcases (show k = 0 ∨ k = 1 ∨ k = 2 by omega) with rfl | rfl | rfl <;> simp at h <;> simp [h5, h]
    ·rw [if_neg h5] at h
     simp at h
 subst hx
 rcases (show k = 0 ∨ k = 1 ∨ k = 2 by omega) with rfl | rfl | rfl <;> simp [preK, TD.cells]
theorem preK_all (t : TD) : preK t (prtL t).length = likeT t := by
 unfold prtL
 by_cases h2 : t.kind = 2
 ·rw [if_pos (.inl h2)]; simp [preK, likeT, h2]
 ·by_cases h4 : t.kind = 4
  ·rw [if_pos (.inr h4)]; simp [preK, likeT, h4]
  ·rw [if_neg (by omega)]
   by_cases h3 : t.kind = 3
   ·rw [if_pos h3]; simp [preK, likeT, h3]
   ·rw [if_neg h3]
    by_cases h5 : t.kind = 5
    ·rw [if_pos h5]; simp [preK, likeT, h5]
    ·rw [if_neg h5]
     by_cases h0 : t.kind = 0
     ·simp [preK, likeT, h0]
     ·by_cases h1 : t.kind = 1
      ·simp [preK, likeT, h1]
      ·simp [preK, likeT, h0, h1, h2, h3, h4, h5]
theorem likeT_wf {t : TD} (h : t.wf) : (likeT t).wf := by
 obtain ⟨kd, op, wd, n, a, b, c⟩ := t
 obtain ⟨h0, h1, h2, h3, h4, h5, h6⟩ := h
 unfold I8 I64 U64 at *
 unfold likeT TD.wf I8 I64 U64
 dsimp only at *
 split
 ·refine ⟨?_, ?_, ?_, ?_, ?_, ?_, ?_⟩ <;> dsimp only <;> omega
 split
 ·refine ⟨?_, ?_, ?_, ?_, ?_, ?_, ?_⟩ <;> dsimp only <;> omega
 split
 ·refine ⟨?_, ?_, ?_, ?_, ?_, ?_, ?_⟩ <;> dsimp only <;> omega
 split
 ·refine ⟨?_, ?_, ?_, ?_, ?_, ?_, ?_⟩ <;> dsimp only <;> omega
 split
 ·refine ⟨?_, ?_, ?_, ?_, ?_, ?_, ?_⟩ <;> dsimp only <;> omega
 split
 ·refine ⟨?_, ?_, ?_, ?_, ?_, ?_, ?_⟩ <;> dsimp only <;> omega
 ·refine ⟨?_, ?_, ?_, ?_, ?_, ?_, ?_⟩ <;> dsimp only <;> omega
theorem parts_any (t : TD) (ht : t.wf) (w : World) : Calls prog 105 #[termV t] w fun e w' => ∃ s, e = .returned (.tuple #[s, termV (likeT t), .bool (okF t)]) ∧ NumsAt w' w.heap.size s (prtL t) ∧ Below w.heap.size w w' := by
 have HTW := Hd ht
 clear ht
 have hbd := fun (k : Int) (w : World) => build_kind k w
 obtain ⟨kd, op, wd, n, a, b, c⟩ := t
 show Calls prog 105 #[.agg #[.int .i8 kd, .int .i8 op, .int .i8 wd, .int .u64 n, .int .i64 a, .int .i64 b, .int .i64 c]] w _
 go_enter func105, ntmps105
 go_upto_region 2 with fail
 have h0 : PF ⟨kd, op, wd, n, a, b, c⟩ ⟨kd, 0, 0, 0, 0, 0, 0⟩ w.heap.size (w.heap.size + 1) w ((w.alloc (.cells #[.int .i8 kd, .int .i8 op, .int .i8 wd, .int .u64 n, .int .i64 a, .int .i64 b, .int .i64 c] 147)).alloc (.cells #[.int .i8 kd, .int .i8 0, .int .i8 0, .int .u64 0, .int .i64 0, .int .i64 0, .int .i64 0] 147)) := by
  have N2 := Blk.new (w.alloc (.cells #[.int .i8 kd, .int .i8 op, .int .i8 wd, .int .u64 n, .int .i64 a, .int .i64 b, .int .i64 c] 147)) 147 #[.int .i8 kd, .int .i8 0, .int .i8 0, .int .u64 0, .int .i64 0, .int .i64 0, .int .i64 0]
  rw [show (w.alloc (.cells #[.int .i8 kd, .int .i8 op, .int .i8 wd, .int .u64 n, .int .i64 a, .int .i64 b, .int .i64 c] 147)).heap.size = w.heap.size + 1 from by simp] at N2
  exact ⟨(Blk.new w 147 #[.int .i8 kd, .int .i8 op, .int .i8 wd, .int .u64 n, .int .i64 a, .int .i64 b, .int .i64 c]).alloc _, N2, ((Below.refl _ _).alloc (Nat.le_refl _) _).alloc (by simp) _, rfl, rfl⟩
 obtain ⟨w2, hw2⟩ : ∃ w2, (w.alloc (.cells #[.int .i8 kd, .int .i8 op, .int .i8 wd, .int .u64 n, .int .i64 a, .int .i64 b, .int .i64 c] 147)).alloc (.cells #[.int .i8 kd, .int .i8 0, .int .i8 0, .int .u64 0, .int .i64 0, .int .i64 0, .int .i64 0] 147) = w2 := ⟨_, rfl⟩
 rw [hw2] at h0 ⊢
 obtain ⟨b0, hb0⟩ : ∃ b, w.heap.size = b := ⟨_, rfl⟩
 obtain ⟨g, hg⟩ : ∃ b, w.heap.size + 1 = b := ⟨_, rfl⟩
 rw [hg] at h0 ⊢
 rw [hb0] at h0 ⊢
 have HB0 := Hd hb0
 have HP := Hd h0
 have c2 := h0.one.cell 2
 simp [TD.cells] at c2
 clear hw2 hb0 hg h0
 go_cut [5] from 8 (fun v wc => v = .bool (wideT wd) ∧ wc = w2)
 case first =>
  as_aux_lemma =>
   cases h32 : (wd == 32)
   ·cases h64 : (wd == 64)
    all_goals
     go_wp2
     go_meet
     case rel => exact ⟨by unfold wideT; rw [h32, h64]; rfl, rfl⟩
   ·go_wp2
    go_meet
    case rel => exact ⟨by unfold wideT; rw [h32]; rfl, rfl⟩
 case rest =>
  obtain ⟨rfl, rfl⟩ := hcut
  obtain ⟨wb, hwb⟩ : ∃ v, wideT wd = v := ⟨_, rfl⟩
  rw [hwb]
  have HW := Hd hwb
  have c0 := HP.out.one.cell 0
  simp [TD.cells] at c0
  clear hwb
  go_upto_block 0 with fail
  go_cut [2, 4] from 8 (fun sv okv wx => okv = .bool (askT ⟨kd, op, wd, n, a, b, c⟩) ∧ NumsAt wx (g + 1) sv (prtL ⟨kd, op, wd, n, a, b, c⟩) ∧ PF ⟨kd, op, wd, n, a, b, c⟩ (preT ⟨kd, op, wd, n, a, b, c⟩) b0 g w wx)
  case first =>
   have hne := HP.out.ne
   have hne2 := hne.symm
   by_cases k0 : kd = 0
   ·subst k0
    as_aux_lemma =>
     have c3 := HP.out.one.cell 3
     have d3 := HP.out.two.cell 3
     have f3 := HP.out.two.frozen 3
     simp [TD.cells] at c3 d3
     go_wp2
     go_meet
     case rel => exact ⟨rfl, NumsAt.nil _ _, HP.out.set 3 _ rfl⟩
   by_cases k1 : kd = 1
   ·subst k1
    as_aux_lemma =>
     have c3 := HP.out.one.cell 3
     have d2 := HP.out.two.cell 2
     have d3 := HP.out.two.cell 3
     have f2 := HP.out.two.frozen 2
     have f3 := HP.out.two.frozen 3
     simp [TD.cells] at c3 d2 d3
     go_wp2
     go_region_held3 (fun w' => w'.cell? ⟨b0, 2, none⟩ = some (.int .i8 wd) ∧ w'.cell? ⟨b0, 3, none⟩ = some (.int .u64 n)) (go_keep)
      ((go_at_call 137; refine (width_any _ _).mono ?_; rintro e w' ⟨rfl, rfl⟩))
     go_wp2
     go_meet
     case rel => exact ⟨rfl, NumsAt.nil _ _, ((HP.out.set (u' := ⟨1, 0, 0, n, 0, 0, 0⟩) 3 (.int .u64 n) rfl).set 2 (.int .i8 wd) rfl).drew⟩
   by_cases k2 : kd = 2
   ·subst k2
    as_aux_lemma =>
     have c1 := HP.out.one.cell 1
     have c4 := HP.out.one.cell 4
     have c5 := HP.out.one.cell 5
     have d1 := HP.out.two.cell 1
     have d2 := HP.out.two.cell 2
     have f1 := HP.out.two.frozen 1
     have f2 := HP.out.two.frozen 2
     simp [TD.cells] at c1 c4 c5 d1 d2
     have HS := Hd (((HP.out.set (u' := ⟨2, op, 0, 0, 0, 0, 0⟩) 1 (.int .i8 op) rfl).set (u' := preT ⟨2, op, wd, n, a, b, c⟩) 2 (.int .i8 wd) rfl).drew)
     have HT : Hid (askT ⟨2, op, wd, n, a, b, c⟩ = (wideT wd && (decide (0 ≤ op) && decide (op ≤ 12)))) := rfl
     obtain ⟨x0, hx0⟩ : ∃ x, decide (0 ≤ op) = x := ⟨_, rfl⟩
     obtain ⟨x1, hx1⟩ : ∃ x, decide (op ≤ 12) = x := ⟨_, rfl⟩
     rw [hx0, hx1, HW.out] at HT
     cases wb
     rotate_left
     ·cases x0
      rotate_left
      ·cases x1
       all_goals
        go_wp2
        go_region
        generalize ((wc.setCell ⟨g, 1, none⟩ (.int .i8 op)).setCell ⟨g, 2, none⟩ (.int .i8 wd)).drew = w5 at HS ⊢
        have e4 := HS.out.one.cell 4
        have e5 := HS.out.one.cell 5
        simp [TD.cells] at e4 e5
        go_wp2
        go_meet
        case rel => exact ⟨by rw [HT.out]; rfl, NumsAt.new (B := g + 1) w5 (by have := HS.out.two.lt; omega) [a, b], HS.out.step ((Below.refl _ _).alloc (Nat.le_refl _) _)⟩
      all_goals
        go_wp2
        go_region
        generalize ((wc.setCell ⟨g, 1, none⟩ (.int .i8 op)).setCell ⟨g, 2, none⟩ (.int .i8 wd)).drew = w5 at HS ⊢
        have e4 := HS.out.one.cell 4
        have e5 := HS.out.one.cell 5
        simp [TD.cells] at e4 e5
        go_wp2
        go_meet
        case rel => exact ⟨by rw [HT.out]; rfl, NumsAt.new (B := g + 1) w5 (by have := HS.out.two.lt; omega) [a, b], HS.out.step ((Below.refl _ _).alloc (Nat.le_refl _) _)⟩
     all_goals
        go_wp2
        go_region
        generalize ((wc.setCell ⟨g, 1, none⟩ (.int .i8 op)).setCell ⟨g, 2, none⟩ (.int .i8 wd)).drew = w5 at HS ⊢
        have e4 := HS.out.one.cell 4
        have e5 := HS.out.one.cell 5
        simp [TD.cells] at e4 e5
        go_wp2
        go_meet
        case rel => exact ⟨by rw [HT.out]; rfl, NumsAt.new (B := g + 1) w5 (by have := HS.out.two.lt; omega) [a, b], HS.out.step ((Below.refl _ _).alloc (Nat.le_refl _) _)⟩
   by_cases k4 : kd = 4
   ·subst k4
    as_aux_lemma =>
     have c1 := HP.out.one.cell 1
     have c4 := HP.out.one.cell 4
     have c5 := HP.out.one.cell 5
     have d1 := HP.out.two.cell 1
     have d2 := HP.out.two.cell 2
     have f1 := HP.out.two.frozen 1
     have f2 := HP.out.two.frozen 2
     simp [TD.cells] at c1 c4 c5 d1 d2
     have HS := Hd (((HP.out.set (u' := ⟨4, op, 0, 0, 0, 0, 0⟩) 1 (.int .i8 op) rfl).set (u' := preT ⟨4, op, wd, n, a, b, c⟩) 2 (.int .i8 wd) rfl).drew)
     have HT : Hid (askT ⟨4, op, wd, n, a, b, c⟩ = (wideT wd && (decide (0 ≤ op) && decide (op ≤ 10)))) := rfl
     obtain ⟨x0, hx0⟩ : ∃ x, decide (0 ≤ op) = x := ⟨_, rfl⟩
     obtain ⟨x1, hx1⟩ : ∃ x, decide (op ≤ 10) = x := ⟨_, rfl⟩
     rw [hx0, hx1, HW.out] at HT
     cases wb
     rotate_left
     ·cases x0
      rotate_left
      ·cases x1
       all_goals
        go_wp2
        go_region
        generalize ((wc.setCell ⟨g, 1, none⟩ (.int .i8 op)).setCell ⟨g, 2, none⟩ (.int .i8 wd)).drew = w5 at HS ⊢
        have e4 := HS.out.one.cell 4
        have e5 := HS.out.one.cell 5
        simp [TD.cells] at e4 e5
        go_wp2
        go_meet
        case rel => exact ⟨by rw [HT.out]; rfl, NumsAt.new (B := g + 1) w5 (by have := HS.out.two.lt; omega) [a, b], HS.out.step ((Below.refl _ _).alloc (Nat.le_refl _) _)⟩
      all_goals
        go_wp2
        go_region
        generalize ((wc.setCell ⟨g, 1, none⟩ (.int .i8 op)).setCell ⟨g, 2, none⟩ (.int .i8 wd)).drew = w5 at HS ⊢
        have e4 := HS.out.one.cell 4
        have e5 := HS.out.one.cell 5
        simp [TD.cells] at e4 e5
        go_wp2
        go_meet
        case rel => exact ⟨by rw [HT.out]; rfl, NumsAt.new (B := g + 1) w5 (by have := HS.out.two.lt; omega) [a, b], HS.out.step ((Below.refl _ _).alloc (Nat.le_refl _) _)⟩
     all_goals
        go_wp2
        go_region
        generalize ((wc.setCell ⟨g, 1, none⟩ (.int .i8 op)).setCell ⟨g, 2, none⟩ (.int .i8 wd)).drew = w5 at HS ⊢
        have e4 := HS.out.one.cell 4
        have e5 := HS.out.one.cell 5
        simp [TD.cells] at e4 e5
        go_wp2
        go_meet
        case rel => exact ⟨by rw [HT.out]; rfl, NumsAt.new (B := g + 1) w5 (by have := HS.out.two.lt; omega) [a, b], HS.out.step ((Below.refl _ _).alloc (Nat.le_refl _) _)⟩
   by_cases k3 : kd = 3
   ·subst k3
    as_aux_lemma =>
     have c4 := HP.out.one.cell 4
     have d2 := HP.out.two.cell 2
     have f2 := HP.out.two.frozen 2
     simp [TD.cells] at c4 d2
     have HS := Hd ((HP.out.set (u' := preT ⟨3, op, wd, n, a, b, c⟩) 2 (.int .i8 wd) rfl).drew)
     have HT : Hid (askT ⟨3, op, wd, n, a, b, c⟩ = (wd != 64 && wdB wd)) := rfl
     cases x0 : (wd != 64)
     ·rw [x0] at HT
      go_wp2
      go_region
      generalize (wc.setCell ⟨g, 2, none⟩ (.int .i8 wd)).drew = w5 at HS ⊢
      have e4 := HS.out.one.cell 4
      simp [TD.cells] at e4
      go_wp2
      go_meet
      case rel => exact ⟨by rw [HT.out]; rfl, NumsAt.new (B := g + 1) w5 (by have := HS.out.two.lt; omega) [a], HS.out.step ((Below.refl _ _).alloc (Nat.le_refl _) _)⟩
     ·rw [x0] at HT
      go_wp2
      go_region_held3 (fun w' => w'.cell? ⟨b0, 2, none⟩ = some (.int .i8 wd)) (go_keep)
       ((go_at_call 137; refine (width_any _ _).mono ?_; rintro e w' ⟨rfl, rfl⟩))
      generalize (wc.setCell ⟨g, 2, none⟩ (.int .i8 wd)).drew = w5 at HS ⊢
      have e4 := HS.out.one.cell 4
      simp [TD.cells] at e4
      go_wp2
      go_meet
      case rel => exact ⟨by rw [HT.out]; rfl, NumsAt.new (B := g + 1) w5 (by have := HS.out.two.lt; omega) [a], HS.out.step ((Below.refl _ _).alloc (Nat.le_refl _) _)⟩
   by_cases k5 : kd = 5
   ·subst k5
    as_aux_lemma =>
     have c4 := HP.out.one.cell 4
     have c5 := HP.out.one.cell 5
     have c6 := HP.out.one.cell 6
     simp [TD.cells] at c4 c5 c6
     go_wp2
     go_meet
     case rel => exact ⟨rfl, NumsAt.new (B := g + 1) wc (by have := HP.out.two.lt; omega) [a, b, c], HP.out.step ((Below.refl _ _).alloc (Nat.le_refl _) _)⟩
   as_aux_lemma =>
    have HQ : Hid (askT ⟨kd, op, wd, n, a, b, c⟩ = false ∧ prtL ⟨kd, op, wd, n, a, b, c⟩ = [] ∧ preT ⟨kd, op, wd, n, a, b, c⟩ = ⟨kd, 0, 0, 0, 0, 0, 0⟩) := by
     refine ⟨?_, ?_, ?_⟩
     ·unfold askT; simp [k0, k1, k2, k3, k4, k5]
     ·unfold prtL; simp [k2, k3, k4, k5]
     ·unfold preT likeT; simp [k0, k1, k2, k3, k4, k5]
    have q0 : (kd == 0) = false := by simpa using k0
    have q1 : (kd == 1) = false := by simpa using k1
    have q2 : (kd == 2) = false := by simpa using k2
    have q3 : (kd == 3) = false := by simpa using k3
    have q4 : (kd == 4) = false := by simpa using k4
    have q5 : (kd == 5) = false := by simpa using k5
    clear k0 k1 k2 k3 k4 k5
    go_wp2
    go_meet
    case rel => exact ⟨by rw [HQ.out.1], by rw [HQ.out.2.1]; exact NumsAt.nil _ _, by rw [HQ.out.2.2]; exact HP.out⟩
  case rest =>
   obtain ⟨rfl, hn, hp⟩ := hcut
   obtain ⟨ok, hok⟩ : ∃ v, askT ⟨kd, op, wd, n, a, b, c⟩ = v := ⟨_, rfl⟩
   rw [hok]
   have HOK := Hd hok
   obtain ⟨t, ht⟩ : ∃ t : TD, ⟨kd, op, wd, n, a, b, c⟩ = t := ⟨_, rfl⟩
   rw [ht] at hn hp HTW HOK
   have HGT := Hd ht
   have hl3 := prtL_len t
   obtain ⟨A, cc, rfl, hcl, hr, hge⟩ := hn
   have HN : Hid (NumsAt wc (g + 1) (.slice A (prtL t).length cc) (prtL t)) := ⟨A, cc, rfl, hcl, hr, hge⟩
   obtain ⟨m, hm⟩ : ∃ m, (prtL t).length = m := ⟨_, rfl⟩
   have HM := Hd hm
   rw [hm] at hl3 HN hcl ⊢
   have HP := Hd hp
   clear hok ht hp hr hge hm
   have hix : ∀ (i : Nat) (w : World) (v : Value), #[Value.pointer (some ⟨g, 4, none⟩), .pointer (some ⟨g, 5, none⟩), .pointer (some ⟨g, 6, none⟩)][i]? = some v → (Instr.index 204 (.agg #[.pointer (some ⟨g, 4, none⟩), .pointer (some ⟨g, 5, none⟩), .pointer (some ⟨g, 6, none⟩)]) (.int .i64 (i : Nat))).run prog w = .ok v w := fun i w v hv =>
    run_index_one w 204 203 3 _ .i64 i _ v underlying204 underlying203 rfl (by kernel_rfl) (by have := (Array.getElem?_eq_some_iff.1 hv).1; simpa using this) hv
   have HIX := Hd hix
   clear hix
   go_wp2
   go_loopw [112] (fun iv wq => ∃ k : Nat, k ≤ m ∧ iv = .int .i64 k ∧ PF t (preK t k) b0 g w wq ∧ NumsAt wq (g + 1) (.slice A m cc) (prtL t)) (fun iv _ => m - (intOf iv).toNat)
   case atStart => exact ⟨0, by omega, rfl, HP.out, HN.out⟩
   case round =>
    obtain ⟨k, hk, rfl, hp, hn⟩ := hrel
    clear HP HN
    have HP := Hd hp
    have HN := Hd hn
    clear hp hn
    by_cases hlt : k < m
    ·obtain ⟨ad, x, hA, hB, hx, _, _, hc⟩ := HN.out.at_ hlt
     subst hA
     have HXS := Hd (preK_set t hx)
     obtain ⟨d, f⟩ : ∃ d, wr.cell? ⟨g, 4 + k, none⟩ = some (.int .i64 d) := by
      have := HP.out.two.cell (4 + k)
      rcases (show k = 0 ∨ k = 1 ∨ k = 2 by omega) with rfl | rfl | rfl <;> exact ⟨_, this⟩
     have fz := HP.out.two.frozen (4 + k)
     have i0 := HIX.out k
     clear hx
     rcases (show k = 0 ∨ k = 1 ∨ k = 2 by omega) with rfl | rfl | rfl
     all_goals
      have i1 := fun w => i0 w _ rfl
      clear i0
      simp at i1 f fz hlt
      simp [Addr.add] at hc
      go_wp2
      go_roundw
      case measure => simp [intOf]; omega
      case rel => exact ⟨_, hlt, rfl, HP.out.set _ _ HXS.out, HN.out.far (by simp) _⟩
    ·obtain rfl : k = m := by omega
     have HL : Hid (PF t (likeT t) b0 g w wr) := by
      have := HP.out
      rw [show k = (prtL t).length from HM.out.symm, preK_all] at this
      exact this
     clear HP c0 c2
     go_wp2
     refine wp_region_E (fun w' => PF t (likeT t) b0 g w w' ∧ NumsAt w' (g + 1) (.slice A k cc) (prtL t)) (fun _ => True) [] (by kernel_rfl) ?_
     have HS := Hd (And.intro HL.out.drew HN.out.drew)
     clear HL HN
     generalize wr.drew = w5 at HS ⊢
     refine em 0 (.slice A k cc) (.both HS.out trivial) ?_
     refine eL false 1 ⟨g, 0, none⟩ (likeT t).cells (fun w hS => blk_list hS.1.1.two) underlying147 sizT (.both HS.out trivial) ?_
     refine em 2 (.bool ok) (.both HS.out trivial) ?_
     refine em 3 (.bool ok) (.both HS.out trivial) ?_
     cases ok
     ·have HF : Hid (okF t = false) := by unfold okF; rw [HOK.out]; rfl
      refine en 4 (.both HS.out trivial) ?_
      refine en 5 (.both HS.out trivial) ?_
      refine en 6 (.both HS.out trivial) ?_
      refine E_pick 7 (some 133) (.tmp 129) (.tmp 132) (.const (.bool false)) false (.bool (okF t)) rfl (by kernel_rfl) (by rfl) (fun _ _ _ h => h) (by rfl) (by rw [HF.out]; rfl) (.both HS.out trivial) ?_
      simp only [pt, pn, sL]
      refine E_one 8 (by kernel_rfl) (StepE.assign 8 (some 2) (.tmp 126) (.slice A k cc) rfl (by rfl) (by rfl) (.both HS.out trivial) ?_)
      simp only [pt, pn, sL]
      refine E_one 9 (by kernel_rfl) (StepE.store_whole 9 147 (.tmp 3) (.tmp 127) g (likeT t).cells (likeT t).cells rfl (by rfl) HS.out.1.two (by rfl) (by rfl) sizT rfl (TD.one _) fun w6 hb hg => ?_)
      have HS6 := Hd (And.intro (HS.out.1.store hb hg) (HS.out.2.keep hg.size (fun i hi hlt => hg.block i hlt (fun e => by injection e with e; omega))))
      clear hb hg
      refine ⟨.both HS6.out trivial, ?_⟩
      simp only [pt, pn, sL]
      refine E_one 10 (by kernel_rfl) (StepE.assign 10 (some 4) (.tmp 133) (.bool (okF t)) rfl (by rfl) (by rfl) (.both HS6.out trivial) ?_)
      simp only [pt, pn, sL]
      refine wpAnyE_done (by kernel_rfl) ?_ _
      go_wp2
      have c0 := HS6.out.1.two.cell 0
      have c1 := HS6.out.1.two.cell 1
      have c2 := HS6.out.1.two.cell 2
      have c3 := HS6.out.1.two.cell 3
      have c4 := HS6.out.1.two.cell 4
      have c5 := HS6.out.1.two.cell 5
      have c6 := HS6.out.1.two.cell 6
      simp [TD.cells] at c0 c1 c2 c3 c4 c5 c6
      refine bodyPost_ret (v := .tuple #[.slice A k cc, termV (likeT t), .bool (okF t)]) (by simp [results, results105, go_sem, termV, TD.cells, c0, c1, c2, c3, c4, c5, c6]) rfl ⟨_, by rw [HGT.out], ?_, HS6.out.1.below⟩
      obtain ⟨A', c', h1, h2, h3, h4⟩ := HS6.out.2
      rw [HGT.out]
      exact ⟨A', c', h1, h2, h3, fun ad e => by have := h4 ad e; have := HS6.out.1.g; omega⟩
     ·have HF : Hid (okF t = decide (t = likeT t)) := by unfold okF; rw [HOK.out]; rfl
      refine eL false 4 ⟨b0, 0, none⟩ t.cells (fun w hS => blk_list hS.1.1.one) underlying147 sizT (.both HS.out trivial) ?_
      refine eL false 5 ⟨g, 0, none⟩ (likeT t).cells (fun w hS => blk_list hS.1.1.two) underlying147 sizT (.both HS.out trivial) ?_
      refine E_bin 6 (some 132) .eql 147 147 (.tmp 130) (.tmp 131) (termV t) (termV (likeT t)) (.bool (decide (t = likeT t))) rfl (by kernel_rfl) (by rfl) (fun _ _ _ h => h) (by rfl) (by rfl) (fun w => eql_tmG HTW.out (likeT_wf HTW.out) _ _ w) (.both HS.out trivial) ?_
      simp only [pt, pn, sL]
      refine E_pick 7 (some 133) (.tmp 129) (.tmp 132) (.const (.bool false)) true (.bool (okF t)) rfl (by kernel_rfl) (by rfl) (fun _ _ _ h => h) (by rfl) (by rw [HF.out]; rfl) (.both HS.out trivial) ?_
      simp only [pt, pn, sL]
      refine E_one 8 (by kernel_rfl) (StepE.assign 8 (some 2) (.tmp 126) (.slice A k cc) rfl (by rfl) (by rfl) (.both HS.out trivial) ?_)
      simp only [pt, pn, sL]
      refine E_one 9 (by kernel_rfl) (StepE.store_whole 9 147 (.tmp 3) (.tmp 127) g (likeT t).cells (likeT t).cells rfl (by rfl) HS.out.1.two (by rfl) (by rfl) sizT rfl (TD.one _) fun w6 hb hg => ?_)
      have HS6 := Hd (And.intro (HS.out.1.store hb hg) (HS.out.2.keep hg.size (fun i hi hlt => hg.block i hlt (fun e => by injection e with e; omega))))
      clear hb hg
      refine ⟨.both HS6.out trivial, ?_⟩
      simp only [pt, pn, sL]
      refine E_one 10 (by kernel_rfl) (StepE.assign 10 (some 4) (.tmp 133) (.bool (okF t)) rfl (by rfl) (by rfl) (.both HS6.out trivial) ?_)
      simp only [pt, pn, sL]
      refine wpAnyE_done (by kernel_rfl) ?_ _
      go_wp2
      have c0 := HS6.out.1.two.cell 0
      have c1 := HS6.out.1.two.cell 1
      have c2 := HS6.out.1.two.cell 2
      have c3 := HS6.out.1.two.cell 3
      have c4 := HS6.out.1.two.cell 4
      have c5 := HS6.out.1.two.cell 5
      have c6 := HS6.out.1.two.cell 6
      simp [TD.cells] at c0 c1 c2 c3 c4 c5 c6
      refine bodyPost_ret (v := .tuple #[.slice A k cc, termV (likeT t), .bool (okF t)]) (by simp [results, results105, go_sem, termV, TD.cells, c0, c1, c2, c3, c4, c5, c6]) rfl ⟨_, by rw [HGT.out], ?_, HS6.out.1.below⟩
      obtain ⟨A', c', h1, h2, h3, h4⟩ := HS6.out.2
      rw [HGT.out]
      exact ⟨A', c', h1, h2, h3, fun ad e => by have := h4 ad e; have := HS6.out.1.g; omega⟩
end Go.Proofs.YtepagfkkjlbipaaGreat
