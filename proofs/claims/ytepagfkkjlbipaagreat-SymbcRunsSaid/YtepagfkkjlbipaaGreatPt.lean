/-
  Contract: parts. Conditions: those written in each statement.
-/
import Derived.Test.YtepagfkkjlbipaaGreatKad
import Derived.Deep.RegionHeld3
import Derived.Deep.CutRange
import Derived.Deep.DrawnRows
set_option linter.unusedVariables false
set_option linter.unusedSimpArgs false
set_option maxHeartbeats 64000000
set_option maxRecDepth 100000
namespace Go.Proofs.YtepagfkkjlbipaaGreat
open Go.RowKit
open Tryz
attribute [local go_sem ↓] Go.wp_at_zero Go.wp_at_succ
theorem zk3 (k : Int)(w : World) : (Instr.build 147 #[(0,.int .i8 k)]).run prog w = .ok (.agg #[.int .i8 k,.int .i8 0,.int .i8 0,.int .u64 0,.int .i64 0,.int .i64 0,.int .i64 0]) w := run_build w 147 _ _ (by kernel_rfl)
def zq8 (t : TD) : TD := { zay t with a := 0,b := 0,c := 0 }
def zle (t : TD)(k : Nat) : TD := { zay t with a := if 0 < k then (zay t).a else 0,b := if 1 < k then (zay t).b else 0,c := if 2 < k then (zay t).c else 0 }
def zk4 (x : Int) : Bool := x == 32 || x == 64
structure PF (t u : TD)(b0 g : Nat)(w wc : World) : Prop where
 one : Blk wc b0 147 t.cells.toArray
 two : Blk wc g 147 u.cells.toArray
 below : Below w.heap.size w wc
 b0 : b0 = w.heap.size
 g : g = w.heap.size + 1
section
variable {t u u' : TD}{b0 g : Nat}{w wc : World}
theorem PF.ne (h : PF t u b0 g w wc) : b0 ≠ g := by rw [h.b0,h.g]; omega
theorem PF.lt (h : PF t u b0 g w wc) : w.heap.size + 2 ≤ wc.heap.size := by have := h.two.lt; rw [h.g] at this; omega
theorem PF.drew (h : PF t u b0 g w wc) : PF t u b0 g w wc.drew := ⟨h.one,h.two,h.below.drew,h.b0,h.g⟩
theorem PF.set (h : PF t u b0 g w wc)(j : Nat)(v : Value)(hu : u.cells.set j v = u'.cells) : PF t u' b0 g w (wc.setCell ⟨g,j,none⟩ v) := by
 refine ⟨h.one.far h.ne v,?_,h.below.setCell (by rw [h.g]; simp) v,h.b0,h.g⟩;have := h.two.set_ j v;rw [← hu]
 simpa using this
theorem PF.step (h : PF t u b0 g w wc){w' : World}(hb : Below wc.heap.size wc w') : PF t u b0 g w w' := ⟨h.one.below hb h.one.lt,h.two.below hb h.two.lt,h.below.trans (hb.mono h.below.size),h.b0,h.g⟩
end
theorem PF.store {t u : TD}{b0 g : Nat}{w wc w' : World}(h : PF t u b0 g w wc)(hb : Blk w' g 147 u.cells.toArray)(hg : wc.grownBy w' (some g)) : PF t u b0 g w w' :=
 ⟨h.one.grown hg (fun e => by injection e with e; exact h.ne e),hb,h.below.grown hg (by have := h.lt; omega) (fun k e => by injection e with e; have := h.g; omega),h.b0,h.g⟩
def za9 (w : World)(B : Nat)(s : Value)(l : List Int) : Prop := ∃ A c,s = .slice A l.length c ∧ l.length ≤ c ∧ zaU w w.heap.size 1 A l.length (l.map (Value.int .i64)) ∧ ∀ ad,A = some ad → B ≤ ad.block
section
variable {w w' : World}{B : Nat}{s : Value}{l : List Int}
theorem za9.nil (w : World)(B : Nat) : za9 w B (.slice none 0 0) [] := ⟨none,0,rfl,ztn _,zaU.none_,by simp⟩
theorem za9.new (w : World)(hB : B ≤ w.heap.size)(l : List Int) : za9 (w.alloc (.cells (l.map (Value.int .i64)).toArray 3)) B (.slice (some ⟨w.heap.size,0,none⟩) l.length l.length) l :=
 ⟨_,_,rfl,ztn _,zgh w 3 (l.map (Value.int .i64)) l.length (by simp),fun ad e => by injection e with e; rw [← e]; exact hB⟩
theorem za9.keep (h : za9 w B s l)(hz : w.heap.size ≤ w'.heap.size)(hb : ∀ i,B ≤ i → i < w.heap.size → w'.heap[i]? = w.heap[i]?) : za9 w' B s l := by
 obtain ⟨A,c,h1,h2,h3,h4⟩ := h;refine ⟨A,c,h1,h2,⟨h3.1,fun hn => ?_⟩,h4⟩;obtain ⟨ad,e,hlt,hc⟩ := h3.2 hn;refine ⟨ad,e,by omega,fun j u hu => ?_⟩;exact (World.cell?_of_block (by rw [zaz]; exact hb _ (h4 ad e) hlt)).trans (hc j u hu)
theorem za9.far (h : za9 w B s l){p : Addr}(hp : p.block < B)(v : Value) : za9 (w.setCell p v) B s l := h.keep (by simp) (fun i hi _ => Below.heap_setCell w p v i (by omega))
theorem za9.drew (h : za9 w B s l) : za9 w.drew B s l := h
theorem za9.step (h : za9 w B s l)(hb : Below w.heap.size w w') : za9 w' B s l := h.keep hb.size (fun i _ hi => hb.block i hi)
theorem za9.at_ {A : Option Addr}{n c k : Nat}(h : za9 w B (.slice A n c) l)(hk : k < n) : ∃ ad x,A = some ad ∧ B ≤ ad.block ∧ l[k]? = some x ∧ n ≤ c ∧ l.length = n ∧ w.cell? (ad.add k) = some (.int .i64 x) := by
 obtain ⟨A',c',h1,h2,h3,h4⟩ := h;injection h1 with e1 e2 e3
 subst e1 e2 e3;obtain ⟨ad,u,e,hb,hx,hc⟩ := h3.at_ hk;have hx' : l[k]? = some l[k] := ztq hk;rw [ztw,hx'] at hx;injection hx with hx
 subst hx;exact ⟨ad,_,e,h4 ad e,hx',h2,rfl,hc⟩
end
theorem zfB (t : TD) : (zax t).length ≤ 3 := by
 unfold zax
 split
 ·simp
 ·split
  ·simp
  ·split <;> simp
theorem zo6 (t : TD){k : Nat}{x : Int}(h : (zax t)[k]? = some x) : (zle t k).cells.set (4 + k) (.int .i64 x) = (zle t (k + 1)).cells := by
 have hk : k < 3 := by have := (ztt.1 h).1; have := zfB t; omega
 have hx : x = if k = 0 then (zay t).a else if k = 1 then (zay t).b else (zay t).c := by
  unfold zax at h;unfold zay
  by_cases h24 : t.kind = 2 ∨ t.kind = 4
  ·rw [if_pos h24] at h
   have h0 : ¬ t.kind = 0 := by omega
   have h1 : ¬ t.kind = 1 := by omega
   rcases h24 with h2 | h4
   ·rcases (show k = 0 ∨ k = 1 ∨ k = 2 by omega) with rfl | rfl | rfl <;> simp at h <;> simp [h0,h1,h2,h]
   ·rcases (show k = 0 ∨ k = 1 ∨ k = 2 by omega) with rfl | rfl | rfl <;> simp at h <;> simp [h0,h1,h4,h]
  ·rw [if_neg h24] at h
   by_cases h3 : t.kind = 3
   ·rw [if_pos h3] at h
    rcases (show k = 0 ∨ k = 1 ∨ k = 2 by omega) with rfl | rfl | rfl <;> simp at h <;> simp [h3,h]
   ·rw [if_neg h3] at h
    by_cases h5 : t.kind = 5
    ·rw [if_pos h5] at h
     rcases (show k = 0 ∨ k = 1 ∨ k = 2 by omega) with rfl | rfl | rfl <;> simp at h <;> simp [h5,h]
    ·rw [if_neg h5] at h
     simp at h
 subst hx
 rcases (show k = 0 ∨ k = 1 ∨ k = 2 by omega) with rfl | rfl | rfl <;> simp [zle,TD.cells]
theorem zo7 (t : TD) : zle t (zax t).length = zay t := by
 unfold zax
 by_cases h2 : t.kind = 2
 ·rw [if_pos (.inl h2)]; simp [zle,zay,h2]
 ·by_cases h4 : t.kind = 4
  ·rw [if_pos (.inr h4)]; simp [zle,zay,h4]
  ·rw [if_neg (by omega)]
   by_cases h3 : t.kind = 3
   ·rw [if_pos h3]; simp [zle,zay,h3]
   ·rw [if_neg h3]
    by_cases h5 : t.kind = 5
    ·rw [if_pos h5]; simp [zle,zay,h5]
    ·rw [if_neg h5]
     by_cases h0 : t.kind = 0
     ·simp [zle,zay,h0]
     ·by_cases h1 : t.kind = 1
      ·simp [zle,zay,h1]
      ·simp [zle,zay,h0,h1,h2,h3,h4,h5]
theorem zo8 {t : TD}(h : t.wf) : (zay t).wf := by
 obtain ⟨kd,op,wd,n,a,b,c⟩ := t;obtain ⟨h0,h1,h2,h3,h4,h5,h6⟩ := h;unfold I8 I64 U64 at *;unfold zay TD.wf I8 I64 U64;dsimp only at *
 split
 ·refine ⟨?_,?_,?_,?_,?_,?_,?_⟩ <;> dsimp only <;> omega
 split
 ·refine ⟨?_,?_,?_,?_,?_,?_,?_⟩ <;> dsimp only <;> omega
 split
 ·refine ⟨?_,?_,?_,?_,?_,?_,?_⟩ <;> dsimp only <;> omega
 split
 ·refine ⟨?_,?_,?_,?_,?_,?_,?_⟩ <;> dsimp only <;> omega
 split
 ·refine ⟨?_,?_,?_,?_,?_,?_,?_⟩ <;> dsimp only <;> omega
 split
 ·refine ⟨?_,?_,?_,?_,?_,?_,?_⟩ <;> dsimp only <;> omega
 ·refine ⟨?_,?_,?_,?_,?_,?_,?_⟩ <;> dsimp only <;> omega
theorem znk (t : TD)(ht : t.wf)(w : World) : Calls prog 105 #[zaw t] w fun e w' => ∃ s,e = .returned (.tuple #[s,zaw (zay t),.bool (okF t)]) ∧ za9 w' w.heap.size s (zax t) ∧ Below w.heap.size w w' := by
 have HTW := Hd ht
 clear ht;have hbd := fun (k : Int) (w : World) => zk3 k w
 obtain ⟨kd,op,wd,n,a,b,c⟩ := t;show Calls prog 105 #[.agg #[.int .i8 kd,.int .i8 op,.int .i8 wd,.int .u64 n,.int .i64 a,.int .i64 b,.int .i64 c]] w _
 go_enter func105,ntmps105;go_upto_region 2 with fail
 have h0 : PF ⟨kd,op,wd,n,a,b,c⟩ ⟨kd,0,0,0,0,0,0⟩ w.heap.size (w.heap.size + 1) w ((w.alloc (.cells #[.int .i8 kd,.int .i8 op,.int .i8 wd,.int .u64 n,.int .i64 a,.int .i64 b,.int .i64 c] 147)).alloc (.cells #[.int .i8 kd,.int .i8 0,.int .i8 0,.int .u64 0,.int .i64 0,.int .i64 0,.int .i64 0] 147)) := by
  have N2 := Blk.new (w.alloc (.cells #[.int .i8 kd,.int .i8 op,.int .i8 wd,.int .u64 n,.int .i64 a,.int .i64 b,.int .i64 c] 147)) 147 #[.int .i8 kd,.int .i8 0,.int .i8 0,.int .u64 0,.int .i64 0,.int .i64 0,.int .i64 0];rw [show (w.alloc (.cells #[.int .i8 kd,.int .i8 op,.int .i8 wd,.int .u64 n,.int .i64 a,.int .i64 b,.int .i64 c] 147)).heap.size = w.heap.size + 1 from by simp] at N2;exact ⟨(Blk.new w 147 #[.int .i8 kd,.int .i8 op,.int .i8 wd,.int .u64 n,.int .i64 a,.int .i64 b,.int .i64 c]).alloc _,N2,((Below.refl _ _).alloc (ztn _) _).alloc (by simp) _,rfl,rfl⟩
 obtain ⟨w2,hw2⟩ : ∃ w2,(w.alloc (.cells #[.int .i8 kd,.int .i8 op,.int .i8 wd,.int .u64 n,.int .i64 a,.int .i64 b,.int .i64 c] 147)).alloc (.cells #[.int .i8 kd,.int .i8 0,.int .i8 0,.int .u64 0,.int .i64 0,.int .i64 0,.int .i64 0] 147) = w2 := ⟨_,rfl⟩;rw [hw2] at h0 ⊢;obtain ⟨b0,hb0⟩ : ∃ b,w.heap.size = b := ⟨_,rfl⟩;obtain ⟨g,hg⟩ : ∃ b,w.heap.size + 1 = b := ⟨_,rfl⟩;rw [hg] at h0 ⊢;rw [hb0] at h0 ⊢;have HB0 := Hd hb0
 have HP := Hd h0
 have c2 := h0.one.cell 2;simp [TD.cells] at c2;clear hw2 hb0 hg h0;go_cut [5] from 8 (fun v wc => v = .bool (zk4 wd) ∧ wc = w2)
 case first =>
  as_aux_lemma =>
   cases h32 : (wd == 32)
   ·cases h64 : (wd == 64)
    all_goals
     go_wp2;go_meet
     case rel => exact ⟨by unfold zk4; rw [h32,h64]; rfl,rfl⟩
   ·go_wp2
    go_meet
    case rel => exact ⟨by unfold zk4; rw [h32]; rfl,rfl⟩
 case rest =>
  obtain ⟨rfl,rfl⟩ := hcut;obtain ⟨wb,hwb⟩ : ∃ v,zk4 wd = v := ⟨_,rfl⟩;rw [hwb];have HW := Hd hwb
  have c0 := HP.out.one.cell 0;simp [TD.cells] at c0;clear hwb;go_upto_block 0 with fail
  go_cut [2,4] from 8 (fun sv okv wx => okv = .bool (zcl ⟨kd,op,wd,n,a,b,c⟩) ∧ za9 wx (g + 1) sv (zax ⟨kd,op,wd,n,a,b,c⟩) ∧ PF ⟨kd,op,wd,n,a,b,c⟩ (zq8 ⟨kd,op,wd,n,a,b,c⟩) b0 g w wx)
  case first =>
   have hne := HP.out.ne;have hne2 := hne.symm
   by_cases k0 : kd = 0
   ·subst k0
    as_aux_lemma =>
     have c3 := HP.out.one.cell 3;have d3 := HP.out.two.cell 3;have f3 := HP.out.two.frozen 3;simp [TD.cells] at c3 d3;go_wp2;go_meet
     case rel => exact ⟨rfl,za9.nil _ _,HP.out.set 3 _ rfl⟩
   by_cases k1 : kd = 1
   ·subst k1
    as_aux_lemma =>
     have c3 := HP.out.one.cell 3;have d2 := HP.out.two.cell 2;have d3 := HP.out.two.cell 3;have f2 := HP.out.two.frozen 2;have f3 := HP.out.two.frozen 3;simp [TD.cells] at c3 d2 d3;go_wp2;go_region_held3 (fun w' => w'.cell? ⟨b0,2,none⟩ = some (.int .i8 wd) ∧ w'.cell? ⟨b0,3,none⟩ = some (.int .u64 n)) (go_keep)
      ((go_at_call 137; refine (zgi _ _).mono ?_; rintro e w' ⟨rfl,rfl⟩))
     go_wp2;go_meet
     case rel => exact ⟨rfl,za9.nil _ _,((HP.out.set (u' := ⟨1,0,0,n,0,0,0⟩) 3 (.int .u64 n) rfl).set 2 (.int .i8 wd) rfl).drew⟩
   by_cases k2 : kd = 2
   ·subst k2
    as_aux_lemma =>
     have c1 := HP.out.one.cell 1;have c4 := HP.out.one.cell 4;have c5 := HP.out.one.cell 5;have d1 := HP.out.two.cell 1;have d2 := HP.out.two.cell 2;have f1 := HP.out.two.frozen 1;have f2 := HP.out.two.frozen 2;simp [TD.cells] at c1 c4 c5 d1 d2;have HS := Hd (((HP.out.set (u' := ⟨2,op,0,0,0,0,0⟩) 1 (.int .i8 op) rfl).set (u' := zq8 ⟨2,op,wd,n,a,b,c⟩) 2 (.int .i8 wd) rfl).drew)
     have HT : Hid (zcl ⟨2,op,wd,n,a,b,c⟩ = (zk4 wd && (decide (0 ≤ op) && decide (op ≤ 12)))) := rfl;obtain ⟨x0,hx0⟩ : ∃ x,decide (0 ≤ op) = x := ⟨_,rfl⟩;obtain ⟨x1,hx1⟩ : ∃ x,decide (op ≤ 12) = x := ⟨_,rfl⟩;rw [hx0,hx1,HW.out] at HT
     cases wb;rotate_left
     ·cases x0
      rotate_left
      ·cases x1
       all_goals
        go_wp2;go_region
        generalize ((wc.setCell ⟨g,1,none⟩ (.int .i8 op)).setCell ⟨g,2,none⟩ (.int .i8 wd)).drew = w5 at HS ⊢;have e4 := HS.out.one.cell 4;have e5 := HS.out.one.cell 5;simp [TD.cells] at e4 e5;go_wp2;go_meet
        case rel => exact ⟨by rw [HT.out]; rfl,za9.new (B := g + 1) w5 (by have := HS.out.two.lt; omega) [a,b],HS.out.step ((Below.refl _ _).alloc (ztn _) _)⟩
      all_goals
        go_wp2;go_region
        generalize ((wc.setCell ⟨g,1,none⟩ (.int .i8 op)).setCell ⟨g,2,none⟩ (.int .i8 wd)).drew = w5 at HS ⊢;have e4 := HS.out.one.cell 4;have e5 := HS.out.one.cell 5;simp [TD.cells] at e4 e5;go_wp2;go_meet
        case rel => exact ⟨by rw [HT.out]; rfl,za9.new (B := g + 1) w5 (by have := HS.out.two.lt; omega) [a,b],HS.out.step ((Below.refl _ _).alloc (ztn _) _)⟩
     all_goals
        go_wp2;go_region
        generalize ((wc.setCell ⟨g,1,none⟩ (.int .i8 op)).setCell ⟨g,2,none⟩ (.int .i8 wd)).drew = w5 at HS ⊢;have e4 := HS.out.one.cell 4;have e5 := HS.out.one.cell 5;simp [TD.cells] at e4 e5;go_wp2;go_meet
        case rel => exact ⟨by rw [HT.out]; rfl,za9.new (B := g + 1) w5 (by have := HS.out.two.lt; omega) [a,b],HS.out.step ((Below.refl _ _).alloc (ztn _) _)⟩
   by_cases k4 : kd = 4
   ·subst k4
    as_aux_lemma =>
     have c1 := HP.out.one.cell 1;have c4 := HP.out.one.cell 4;have c5 := HP.out.one.cell 5;have d1 := HP.out.two.cell 1;have d2 := HP.out.two.cell 2;have f1 := HP.out.two.frozen 1;have f2 := HP.out.two.frozen 2;simp [TD.cells] at c1 c4 c5 d1 d2;have HS := Hd (((HP.out.set (u' := ⟨4,op,0,0,0,0,0⟩) 1 (.int .i8 op) rfl).set (u' := zq8 ⟨4,op,wd,n,a,b,c⟩) 2 (.int .i8 wd) rfl).drew)
     have HT : Hid (zcl ⟨4,op,wd,n,a,b,c⟩ = (zk4 wd && (decide (0 ≤ op) && decide (op ≤ 10)))) := rfl;obtain ⟨x0,hx0⟩ : ∃ x,decide (0 ≤ op) = x := ⟨_,rfl⟩;obtain ⟨x1,hx1⟩ : ∃ x,decide (op ≤ 10) = x := ⟨_,rfl⟩;rw [hx0,hx1,HW.out] at HT
     cases wb;rotate_left
     ·cases x0
      rotate_left
      ·cases x1
       all_goals
        go_wp2;go_region
        generalize ((wc.setCell ⟨g,1,none⟩ (.int .i8 op)).setCell ⟨g,2,none⟩ (.int .i8 wd)).drew = w5 at HS ⊢;have e4 := HS.out.one.cell 4;have e5 := HS.out.one.cell 5;simp [TD.cells] at e4 e5;go_wp2;go_meet
        case rel => exact ⟨by rw [HT.out]; rfl,za9.new (B := g + 1) w5 (by have := HS.out.two.lt; omega) [a,b],HS.out.step ((Below.refl _ _).alloc (ztn _) _)⟩
      all_goals
        go_wp2;go_region
        generalize ((wc.setCell ⟨g,1,none⟩ (.int .i8 op)).setCell ⟨g,2,none⟩ (.int .i8 wd)).drew = w5 at HS ⊢;have e4 := HS.out.one.cell 4;have e5 := HS.out.one.cell 5;simp [TD.cells] at e4 e5;go_wp2;go_meet
        case rel => exact ⟨by rw [HT.out]; rfl,za9.new (B := g + 1) w5 (by have := HS.out.two.lt; omega) [a,b],HS.out.step ((Below.refl _ _).alloc (ztn _) _)⟩
     all_goals
        go_wp2;go_region
        generalize ((wc.setCell ⟨g,1,none⟩ (.int .i8 op)).setCell ⟨g,2,none⟩ (.int .i8 wd)).drew = w5 at HS ⊢;have e4 := HS.out.one.cell 4;have e5 := HS.out.one.cell 5;simp [TD.cells] at e4 e5;go_wp2;go_meet
        case rel => exact ⟨by rw [HT.out]; rfl,za9.new (B := g + 1) w5 (by have := HS.out.two.lt; omega) [a,b],HS.out.step ((Below.refl _ _).alloc (ztn _) _)⟩
   by_cases k3 : kd = 3
   ·subst k3
    as_aux_lemma =>
     have c4 := HP.out.one.cell 4;have d2 := HP.out.two.cell 2;have f2 := HP.out.two.frozen 2;simp [TD.cells] at c4 d2;have HS := Hd ((HP.out.set (u' := zq8 ⟨3,op,wd,n,a,b,c⟩) 2 (.int .i8 wd) rfl).drew)
     have HT : Hid (zcl ⟨3,op,wd,n,a,b,c⟩ = (wd != 64 && wdB wd)) := rfl
     cases x0 : (wd != 64)
     ·rw [x0] at HT
      go_wp2;go_region
      generalize (wc.setCell ⟨g,2,none⟩ (.int .i8 wd)).drew = w5 at HS ⊢;have e4 := HS.out.one.cell 4;simp [TD.cells] at e4;go_wp2;go_meet
      case rel => exact ⟨by rw [HT.out]; rfl,za9.new (B := g + 1) w5 (by have := HS.out.two.lt; omega) [a],HS.out.step ((Below.refl _ _).alloc (ztn _) _)⟩
     ·rw [x0] at HT
      go_wp2;go_region_held3 (fun w' => w'.cell? ⟨b0,2,none⟩ = some (.int .i8 wd)) (go_keep)
       ((go_at_call 137; refine (zgi _ _).mono ?_; rintro e w' ⟨rfl,rfl⟩))
      generalize (wc.setCell ⟨g,2,none⟩ (.int .i8 wd)).drew = w5 at HS ⊢;have e4 := HS.out.one.cell 4;simp [TD.cells] at e4;go_wp2;go_meet
      case rel => exact ⟨by rw [HT.out]; rfl,za9.new (B := g + 1) w5 (by have := HS.out.two.lt; omega) [a],HS.out.step ((Below.refl _ _).alloc (ztn _) _)⟩
   by_cases k5 : kd = 5
   ·subst k5
    as_aux_lemma =>
     have c4 := HP.out.one.cell 4;have c5 := HP.out.one.cell 5;have c6 := HP.out.one.cell 6;simp [TD.cells] at c4 c5 c6;go_wp2;go_meet
     case rel => exact ⟨rfl,za9.new (B := g + 1) wc (by have := HP.out.two.lt; omega) [a,b,c],HP.out.step ((Below.refl _ _).alloc (ztn _) _)⟩
   as_aux_lemma =>
    have HQ : Hid (zcl ⟨kd,op,wd,n,a,b,c⟩ = false ∧ zax ⟨kd,op,wd,n,a,b,c⟩ = [] ∧ zq8 ⟨kd,op,wd,n,a,b,c⟩ = ⟨kd,0,0,0,0,0,0⟩) := by
     refine ⟨?_,?_,?_⟩
     ·unfold zcl; simp [k0,k1,k2,k3,k4,k5]
     ·unfold zax; simp [k2,k3,k4,k5]
     ·unfold zq8 zay; simp [k0,k1,k2,k3,k4,k5]
    have q0 : (kd == 0) = false := by simpa using k0
    have q1 : (kd == 1) = false := by simpa using k1
    have q2 : (kd == 2) = false := by simpa using k2
    have q3 : (kd == 3) = false := by simpa using k3
    have q4 : (kd == 4) = false := by simpa using k4
    have q5 : (kd == 5) = false := by simpa using k5
    clear k0 k1 k2 k3 k4 k5;go_wp2;go_meet
    case rel => exact ⟨by rw [HQ.out.1],by rw [HQ.out.2.1]; exact za9.nil _ _,by rw [HQ.out.2.2]; exact HP.out⟩
  case rest =>
   obtain ⟨rfl,hn,hp⟩ := hcut;obtain ⟨ok,hok⟩ : ∃ v,zcl ⟨kd,op,wd,n,a,b,c⟩ = v := ⟨_,rfl⟩;rw [hok];have HOK := Hd hok
   obtain ⟨t,ht⟩ : ∃ t : TD,⟨kd,op,wd,n,a,b,c⟩ = t := ⟨_,rfl⟩;rw [ht] at hn hp HTW HOK;have HGT := Hd ht
   have hl3 := zfB t;obtain ⟨A,cc,rfl,hcl,hr,hge⟩ := hn;have HN : Hid (za9 wc (g + 1) (.slice A (zax t).length cc) (zax t)) := ⟨A,cc,rfl,hcl,hr,hge⟩;obtain ⟨m,hm⟩ : ∃ m,(zax t).length = m := ⟨_,rfl⟩;have HM := Hd hm
   rw [hm] at hl3 HN hcl ⊢;have HP := Hd hp
   clear hok ht hp hr hge hm;have hix : ∀ (i : Nat) (w : World) (v : Value),#[Value.pointer (some ⟨g,4,none⟩),.pointer (some ⟨g,5,none⟩),.pointer (some ⟨g,6,none⟩)][i]? = some v → (Instr.index 204 (.agg #[.pointer (some ⟨g,4,none⟩),.pointer (some ⟨g,5,none⟩),.pointer (some ⟨g,6,none⟩)]) (.int .i64 (i : Nat))).run prog w = .ok v w := fun i w v hv =>
    zeq w 204 203 3 _ .i64 i _ v underlying204 underlying203 rfl (by kernel_rfl) (by have := (Array.getElem?_eq_some_iff.1 hv).1; simpa using this) hv
   have HIX := Hd hix
   clear hix;go_wp2;go_loopw [112] (fun iv wq => ∃ k : Nat,k ≤ m ∧ iv = .int .i64 k ∧ PF t (zle t k) b0 g w wq ∧ za9 wq (g + 1) (.slice A m cc) (zax t)) (fun iv _ => m - (intOf iv).toNat)
   case atStart => exact ⟨0,by omega,rfl,HP.out,HN.out⟩
   case round =>
    obtain ⟨k,hk,rfl,hp,hn⟩ := hrel;clear HP HN;have HP := Hd hp
    have HN := Hd hn
    clear hp hn
    by_cases hlt : k < m
    ·obtain ⟨ad,x,hA,hB,hx,_,_,hc⟩ := HN.out.at_ hlt
     subst hA;have HXS := Hd (zo6 t hx)
     obtain ⟨d,f⟩ : ∃ d,wr.cell? ⟨g,4 + k,none⟩ = some (.int .i64 d) := by
      have := HP.out.two.cell (4 + k)
      rcases (show k = 0 ∨ k = 1 ∨ k = 2 by omega) with rfl | rfl | rfl <;> exact ⟨_,this⟩
     have fz := HP.out.two.frozen (4 + k);have i0 := HIX.out k;clear hx
     rcases (show k = 0 ∨ k = 1 ∨ k = 2 by omega) with rfl | rfl | rfl
     all_goals
      have i1 := fun w => i0 w _ rfl
      clear i0;simp at i1 f fz hlt;simp [Addr.add] at hc;go_wp2;go_roundw
      case measure => simp [intOf]; omega
      case rel => exact ⟨_,hlt,rfl,HP.out.set _ _ HXS.out,HN.out.far (by simp) _⟩
    ·obtain rfl : k = m := by omega
     have HL : Hid (PF t (zay t) b0 g w wr) := by
      have := HP.out;rw [show k = (zax t).length from HM.out.symm,zo7] at this;exact this
     clear HP c0 c2;go_wp2;refine zac (fun w' => PF t (zay t) b0 g w w' ∧ za9 w' (g + 1) (.slice A k cc) (zax t)) (fun _ => True) [] (by kernel_rfl) ?_;have HS := Hd (ztp HL.out.drew HN.out.drew)
     clear HL HN;generalize wr.drew = w5 at HS ⊢;refine em 0 (.slice A k cc) (.both HS.out trivial) ?_;refine eL false 1 ⟨g,0,none⟩ (zay t).cells (fun w hS => zak hS.1.1.two) underlying147 zcL (.both HS.out trivial) ?_;refine em 2 (.bool ok) (.both HS.out trivial) ?_;refine em 3 (.bool ok) (.both HS.out trivial) ?_
     cases ok
     ·have HF : Hid (okF t = false) := by unfold okF; rw [HOK.out]; rfl
      refine en 4 (.both HS.out trivial) ?_;refine en 5 (.both HS.out trivial) ?_;refine en 6 (.both HS.out trivial) ?_;refine zl1 7 (some 133) (.tmp 129) (.tmp 132) (.const (.bool false)) false (.bool (okF t)) rfl (by kernel_rfl) (by rfl) (fun _ _ _ h => h) (by rfl) (by rw [HF.out]; rfl) (.both HS.out trivial) ?_;simp only [pt,pn,sL];refine zaN 8 (by kernel_rfl) (zar.assign 8 (some 2) (.tmp 126) (.slice A k cc) rfl (by rfl) (by rfl) (.both HS.out trivial) ?_);simp only [pt,pn,sL];refine zaN 9 (by kernel_rfl) (zar.store_whole 9 147 (.tmp 3) (.tmp 127) g (zay t).cells (zay t).cells rfl (by rfl) HS.out.1.two (by rfl) (by rfl) zcL rfl (TD.one _) fun w6 hb hg => ?_);have HS6 := Hd (ztp (HS.out.1.store hb hg) (HS.out.2.keep hg.size (fun i hi hlt => hg.block i hlt (fun e => by injection e with e; omega))))
      clear hb hg;refine ⟨.both HS6.out trivial,?_⟩;simp only [pt,pn,sL];refine zaN 10 (by kernel_rfl) (zar.assign 10 (some 4) (.tmp 133) (.bool (okF t)) rfl (by rfl) (by rfl) (.both HS6.out trivial) ?_);simp only [pt,pn,sL];refine zab (by kernel_rfl) ?_ _;go_wp2;have c0 := HS6.out.1.two.cell 0;have c1 := HS6.out.1.two.cell 1;have c2 := HS6.out.1.two.cell 2;have c3 := HS6.out.1.two.cell 3;have c4 := HS6.out.1.two.cell 4;have c5 := HS6.out.1.two.cell 5;have c6 := HS6.out.1.two.cell 6;simp [TD.cells] at c0 c1 c2 c3 c4 c5 c6;refine bodyPost_ret (v := .tuple #[.slice A k cc,zaw (zay t),.bool (okF t)]) (by simp [results,results105,go_sem,zaw,TD.cells,c0,c1,c2,c3,c4,c5,c6]) rfl ⟨_,by rw [HGT.out],?_,HS6.out.1.below⟩;obtain ⟨A',c',h1,h2,h3,h4⟩ := HS6.out.2;rw [HGT.out];exact ⟨A',c',h1,h2,h3,fun ad e => by have := h4 ad e; have := HS6.out.1.g; omega⟩
     ·have HF : Hid (okF t = decide (t = zay t)) := by unfold okF; rw [HOK.out]; rfl
      refine eL false 4 ⟨b0,0,none⟩ t.cells (fun w hS => zak hS.1.1.one) underlying147 zcL (.both HS.out trivial) ?_;refine eL false 5 ⟨g,0,none⟩ (zay t).cells (fun w hS => zak hS.1.1.two) underlying147 zcL (.both HS.out trivial) ?_;refine zne 6 (some 132) .eql 147 147 (.tmp 130) (.tmp 131) (zaw t) (zaw (zay t)) (.bool (decide (t = zay t))) rfl (by kernel_rfl) (by rfl) (fun _ _ _ h => h) (by rfl) (by rfl) (fun w => zqM HTW.out (zo8 HTW.out) _ _ w) (.both HS.out trivial) ?_;simp only [pt,pn,sL];refine zl1 7 (some 133) (.tmp 129) (.tmp 132) (.const (.bool false)) true (.bool (okF t)) rfl (by kernel_rfl) (by rfl) (fun _ _ _ h => h) (by rfl) (by rw [HF.out]; rfl) (.both HS.out trivial) ?_;simp only [pt,pn,sL];refine zaN 8 (by kernel_rfl) (zar.assign 8 (some 2) (.tmp 126) (.slice A k cc) rfl (by rfl) (by rfl) (.both HS.out trivial) ?_);simp only [pt,pn,sL];refine zaN 9 (by kernel_rfl) (zar.store_whole 9 147 (.tmp 3) (.tmp 127) g (zay t).cells (zay t).cells rfl (by rfl) HS.out.1.two (by rfl) (by rfl) zcL rfl (TD.one _) fun w6 hb hg => ?_);have HS6 := Hd (ztp (HS.out.1.store hb hg) (HS.out.2.keep hg.size (fun i hi hlt => hg.block i hlt (fun e => by injection e with e; omega))))
      clear hb hg;refine ⟨.both HS6.out trivial,?_⟩;simp only [pt,pn,sL];refine zaN 10 (by kernel_rfl) (zar.assign 10 (some 4) (.tmp 133) (.bool (okF t)) rfl (by rfl) (by rfl) (.both HS6.out trivial) ?_);simp only [pt,pn,sL];refine zab (by kernel_rfl) ?_ _;go_wp2;have c0 := HS6.out.1.two.cell 0;have c1 := HS6.out.1.two.cell 1;have c2 := HS6.out.1.two.cell 2;have c3 := HS6.out.1.two.cell 3;have c4 := HS6.out.1.two.cell 4;have c5 := HS6.out.1.two.cell 5;have c6 := HS6.out.1.two.cell 6;simp [TD.cells] at c0 c1 c2 c3 c4 c5 c6;refine bodyPost_ret (v := .tuple #[.slice A k cc,zaw (zay t),.bool (okF t)]) (by simp [results,results105,go_sem,zaw,TD.cells,c0,c1,c2,c3,c4,c5,c6]) rfl ⟨_,by rw [HGT.out],?_,HS6.out.1.below⟩;obtain ⟨A',c',h1,h2,h3,h4⟩ := HS6.out.2;rw [HGT.out];exact ⟨A',c',h1,h2,h3,fun ad e => by have := h4 ad e; have := HS6.out.1.g; omega⟩
end Go.Proofs.YtepagfkkjlbipaaGreat
