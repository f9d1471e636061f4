/-
  Two rows of numbers, the same? Two events? Conditions: those written in each statement.
-/
import Derived.Test.YtepagfkkjlbipaaGreatKaf
import Derived.Test.YtepagfkkjlbipaaGreatKap
import Derived.BigQuiet
namespace Go.Proofs.YtepagfkkjlbipaaGreat
open Go.RowKit
set_option linter.unusedVariables false
set_option linter.unusedSimpArgs false
def sameI (a b : List Int) : Bool := decide (a = b)
theorem sameI_no {a b : List Int} (h : a ≠ b) : sameI a b = false := by unfold sameI; simpa using h
theorem sameI_len {a b : List Int} (h : a.length ≠ b.length) : sameI a b = false := sameI_no fun e => h (by rw [e])
theorem sameI_at {a b : List Int} {k : Nat} {x y : Int} (hx : a[k]? = some x) (hy : b[k]? = some y) (h : x ≠ y) : sameI a b = false := sameI_no fun e => by
 subst e
 rw [hx] at hy
 exact h (Option.some.inj hy)
theorem sameI_all {a b : List Int} (hl : a.length = b.length) (h : ∀ j, j < a.length → a[j]? = b[j]?) : sameI a b = true := by
 unfold sameI
 rw [decide_eq_true_iff]
 refine List.ext_getElem hl fun i h1 h2 => ?_
 have := h i h1
 rw [List.getElem?_eq_getElem h1, List.getElem?_eq_getElem h2] at this
 exact Option.some.inj this
/-- A bool comes back; the world drew. -/
def DrP (b : Bool) (w : World) (e : Ending) (w' : World) : Prop := e = .returned (.bool b) ∧ ∃ d, w' = w.drewN d
theorem dr_more {w wr : World} (h : ∃ d, wr = w.drewN d) (k : Nat) : ∃ d, wr.drewN k = w.drewN d := by
 obtain ⟨d, rfl⟩ := h
 exact ⟨d + k, by rw [World.drewN_drewN]⟩
theorem dr_cell {w wr : World} (h : ∃ d, wr = w.drewN d) (p : Addr) : wr.cell? p = w.cell? p := by
 obtain ⟨d, rfl⟩ := h
 rfl
theorem dr_below {w wr : World} (h : ∃ d, wr = w.drewN d) (B : Nat) : Below B w wr := by
 obtain ⟨d, rfl⟩ := h
 exact below_drewN (Below.refl _ _) d
theorem ret_bb {a b : Bool} (h : a = b) : Ending.returned (.bool a) = .returned (.bool b) := by rw [h]
set_option maxRecDepth 100000 in
set_option maxHeartbeats 2000000 in
theorem equal_any (A A2 : Option Addr) (n c n2 c2 B : Nat) (a b : List Int) (w : World) (hh : NxAt w B (.slice A n c) a) (hh2 : NxAt w B (.slice A2 n2 c2) b) :
  Calls Tryz.prog 55 #[.slice A n c, .slice A2 n2 c2] w (DrP (sameI a b) w) := by
 have HA := hide hh
 have HB := hide hh2
 obtain ⟨ha, _, hm⟩ := hh.len
 obtain ⟨hb, _, hm2⟩ := hh2.len
 have HLA := hide ha
 have HLB := hide hb
 clear hh hh2 ha hb
 cases hne : ((n : Int) != (n2 : Int))
 ·obtain rfl : n = n2 := by simp at hne; omega
  clear hne
  go_enter Tryz.func55, Tryz.ntmps55
  go_wp2
  go_loopw [13] (fun i wr => ∃ k : Nat, k ≤ n ∧ i = .int .i64 k ∧ Hid (∀ j, j < k → a[j]? = b[j]?) ∧ Hid (∃ d, wr = w.drewN d)) (fun i _ => n - (intOf i).toNat)
  case atStart => exact ⟨0, by omega, rfl, fun j h => by omega, ⟨0, rfl⟩⟩
  case round =>
   obtain ⟨k, hk, rfl, HT, HD⟩ := hrel
   by_cases hlt : k < n
   ·obtain ⟨ad, x, rfl, _, hx, hxi, hcx⟩ := HA.out.at_ hlt
    obtain ⟨ad2, y, rfl, _, hy, hyi, hcy⟩ := HB.out.at_ hlt
    have HX := hide hx
    have HY := hide hy
    have e0 := (dr_cell HD.out (ad.add k)).trans hcx
    have e1 := (dr_cell HD.out (ad2.add k)).trans hcy
    have HDm := fun m => hide (dr_more HD.out m)
    clear hx hy hxi hyi hcx hcy
    cases hq : (x != y)
    ·have HQ := hide (show x = y by simpa using hq)
     go_wp2_with fail
     go_quiet (fail)
     go_wp2
     go_roundw
     case measure => simp [intOf]; omega
     case rel =>
      refine ⟨k + 1, by omega, by go_num, fun j hj => ?_, (HDm _).out⟩
      rcases Nat.lt_or_ge j k with h | h
      ·exact HT.out j h
      ·obtain rfl : j = k := by omega
       rw [HX.out, HY.out, HQ.out]
    ·have HQ := hide (sameI_at HX.out HY.out (show x ≠ y by simpa using hq))
     go_wp2_with fail
     go_quiet (fail)
     go_wp2
     go_ret
     exact ⟨ret_bb HQ.out.symm, (HDm _).out⟩
   ·obtain rfl : k = n := by omega
    have HQ := hide (sameI_all (a := a) (b := b) (by rw [HLA.out, HLB.out]) (by rw [HLA.out]; exact HT.out))
    go_wp2
    go_ret
    exact ⟨ret_bb HQ.out.symm, HD.out⟩
 ·have HQ := hide (sameI_len (a := a) (b := b) (by rw [HLA.out, HLB.out]; simp at hne; omega))
  go_enter Tryz.func55, Tryz.ntmps55
  go_wp2
  go_ret
  exact ⟨ret_bb HQ.out.symm, 0, rfl⟩
/-- Two events, the same? -/
def sameE (x y : EvD) : Bool := x.kind == y.kind && (x.size == y.size && (x.a == y.a && (x.v == y.v && (x.num == y.num && sameI x.args y.args))))
theorem NumsF.nx {w : World} {F : Nat → Prop} {s : Value} {l : List Int} (h : NumsF w F s l) : NxAt w w.heap.size s l := by
 obtain ⟨A, c, h1, h2, h3, h4, h5⟩ := h
 exact ⟨A, c, h1, h2, h3.reads, h4, by omega⟩
set_option maxRecDepth 100000 in
set_option maxHeartbeats 2000000 in
theorem same_any (x y : EvD) (v u : Value) (w : World) (hv : NxAt w w.heap.size v x.args) (hu : NxAt w w.heap.size u y.args) : Calls Tryz.prog 22 #[.agg (evC (x, v)).toArray, .agg (evC (y, u)).toArray] w fun e w' => e = .returned (.bool (sameE x y)) ∧ Below w.heap.size w w' := by
 obtain ⟨A, c, hv1⟩ := hv.form
 obtain ⟨A2, c2, hu1⟩ := hu.form
 subst hv1 hu1
 obtain ⟨k1, s1, a1, v1, n1, l1⟩ := x
 obtain ⟨k2, s2, a2, v2, n2, l2⟩ := y
 dsimp only at hv hu
 show Calls Tryz.prog 22 #[.agg #[.int .i8 k1, .int .i8 s1, .int .i64 a1, .int .i64 v1, .int .i64 n1, .slice A l1.length c], .agg #[.int .i8 k2, .int .i8 s2, .int .i64 a2, .int .i64 v2, .int .i64 n2, .slice A2 l2.length c2]] w _
 obtain ⟨w1, hw1⟩ : ∃ z, (w.alloc (.cells #[.int .i8 k1, .int .i8 s1, .int .i64 a1, .int .i64 v1, .int .i64 n1, .slice A l1.length c] 72)).alloc (.cells #[.int .i8 k2, .int .i8 s2, .int .i64 a2, .int .i64 v2, .int .i64 n2, .slice A2 l2.length c2] 72) = z := ⟨_, rfl⟩
 have hb : Below w.heap.size w w1 := by rw [← hw1]; exact ((Below.refl _ w).alloc (Nat.le_refl _) _).alloc (by simp) _
 have HV := hide (hv.below hb)
 have HU := hide (hu.below hb)
 have HB := hide hb
 obtain ⟨m1, hm1⟩ : ∃ k, l1.length = k := ⟨_, rfl⟩
 obtain ⟨m2, hm2⟩ : ∃ k, l2.length = k := ⟨_, rfl⟩
 obtain ⟨r, hr⟩ : ∃ b, sameE ⟨k1, s1, a1, v1, n1, l1⟩ ⟨k2, s2, a2, v2, n2, l2⟩ = b := ⟨_, rfl⟩
 have HR := hide (show r = (k1 == k2 && (s1 == s2 && (a1 == a2 && (v1 == v2 && (n1 == n2 && sameI l1 l2))))) by rw [← hr]; rfl)
 have HQ : Hid (Calls Tryz.prog 55 #[.slice A l1.length c, .slice A2 l2.length c2] w1 (DrP (sameI l1 l2) w1)) := hide (equal_any A A2 l1.length c l2.length c2 w.heap.size l1 l2 w1 HV.out HU.out)
 rw [hr]
 rw [hm1, hm2] at HQ hw1 ⊢
 have HX : Blk w1 w.heap.size 72 #[.int .i8 k1, .int .i8 s1, .int .i64 a1, .int .i64 v1, .int .i64 n1, .slice A m1 c] := by rw [← hw1]; exact (Blk.new w 72 #[.int .i8 k1, .int .i8 s1, .int .i64 a1, .int .i64 v1, .int .i64 n1, .slice A m1 c]).alloc _
 have HY : Blk w1 (w.heap.size + 1) 72 #[.int .i8 k2, .int .i8 s2, .int .i64 a2, .int .i64 v2, .int .i64 n2, .slice A2 m2 c2] := by
  rw [← hw1]
  have := Blk.new (w.alloc (.cells #[.int .i8 k1, .int .i8 s1, .int .i64 a1, .int .i64 v1, .int .i64 n1, .slice A m1 c] 72)) 72 #[.int .i8 k2, .int .i8 s2, .int .i64 a2, .int .i64 v2, .int .i64 n2, .slice A2 m2 c2]
  simpa using this
 have x0 : w1.cell? ⟨w.heap.size, 0, none⟩ = some (.int .i8 k1) := HX.cell 0
 have x1 : w1.cell? ⟨w.heap.size, 1, none⟩ = some (.int .i8 s1) := HX.cell 1
 have x2 : w1.cell? ⟨w.heap.size, 2, none⟩ = some (.int .i64 a1) := HX.cell 2
 have x3 : w1.cell? ⟨w.heap.size, 3, none⟩ = some (.int .i64 v1) := HX.cell 3
 have x4 : w1.cell? ⟨w.heap.size, 4, none⟩ = some (.int .i64 n1) := HX.cell 4
 have x5 : w1.cell? ⟨w.heap.size, 5, none⟩ = some (.slice A m1 c) := HX.cell 5
 have y0 : w1.cell? ⟨w.heap.size + 1, 0, none⟩ = some (.int .i8 k2) := HY.cell 0
 have y1 : w1.cell? ⟨w.heap.size + 1, 1, none⟩ = some (.int .i8 s2) := HY.cell 1
 have y2 : w1.cell? ⟨w.heap.size + 1, 2, none⟩ = some (.int .i64 a2) := HY.cell 2
 have y3 : w1.cell? ⟨w.heap.size + 1, 3, none⟩ = some (.int .i64 v2) := HY.cell 3
 have y4 : w1.cell? ⟨w.heap.size + 1, 4, none⟩ = some (.int .i64 n2) := HY.cell 4
 have y5 : w1.cell? ⟨w.heap.size + 1, 5, none⟩ = some (.slice A2 m2 c2) := HY.cell 5
 clear hv hu hb hm1 hm2 hr HV HU HX HY
 cases ek : (k1 == k2)
 ·go_enter Tryz.func22, Tryz.ntmps22
  go_wp2
  go_ret
  exact ⟨by rw [HR.out, ek]; simp, HB.out⟩
 ·skip
  cases es : (s1 == s2)
  ·go_enter Tryz.func22, Tryz.ntmps22
   go_wp2
   go_ret
   exact ⟨by rw [HR.out, ek, es]; simp, HB.out⟩
  ·skip
   cases ea : (a1 == a2)
   ·go_enter Tryz.func22, Tryz.ntmps22
    go_wp2
    go_ret
    exact ⟨by rw [HR.out, ek, es, ea]; simp, HB.out⟩
   ·skip
    cases ev : (v1 == v2)
    ·go_enter Tryz.func22, Tryz.ntmps22
     go_wp2
     go_ret
     exact ⟨by rw [HR.out, ek, es, ea, ev]; simp, HB.out⟩
    ·skip
     cases en : (n1 == n2)
     ·go_enter Tryz.func22, Tryz.ntmps22
      go_wp2
      go_ret
      exact ⟨by rw [HR.out, ek, es, ea, ev, en]; simp, HB.out⟩
     ·skip
      go_enter Tryz.func22, Tryz.ntmps22
      go_wp2_with fail
      refine HQ.out.mono ?_
      rintro e w2 ⟨rfl, hd⟩
      have HD := hide hd
      clear hd
      go_wp2
      go_ret
      exact ⟨by rw [HR.out, ek, es, ea, ev, en]; simp, HB.out.trans ((dr_below HD.out _).mono HB.out.size)⟩
end Go.Proofs.YtepagfkkjlbipaaGreat
