/-
  latheref04.begins: does a block begin at an instruction? Conditions: those written in each statement.
-/
import Derived.Test.YtepagfkkjlbipaaGreatKal
set_option linter.unusedVariables false
set_option linter.unusedSimpArgs false
set_option maxHeartbeats 64000000
set_option maxRecDepth 100000
namespace Go.Proofs.YtepagfkkjlbipaaGreat
open Go.RowKit
open Tryz
theorem zjO {a b : Bool}(h : a = b) : Ending.returned (.bool a) = .returned (.bool b) := by rw [h]
theorem ztc : (prog.info? 47).map (·.size) = some 9 := by kernel_rfl
theorem zqq {j : Nat}{x : ID}{i : Nat}(h1 : zgM x = true → j + 1 ≠ i)(h2 : zcE j x = true → zdE j x ≠ i) : znG j x i = false := by
 unfold znG;rw [Bool.or_eq_false_iff,zuj,zuj]
 constructor
 ·cases h : zgM x
  ·left; rfl
  ·right
   have := h1 h;simp;omega
 ·cases h : zcE j x
  ·left; rfl
  ·right
   have := h2 h;simp;exact fun e => this e.symm
theorem zmF {l : List ID}{i : Nat}{x : ID}(h0 : 0 < i)(hx : l[i - 1]? = some x)(hj : zgM x = false)(h : ∀ (j : Nat) (y : ID),l[j]? = some y → zcE j y = true → zdE j y ≠ i) : za3 l i = false :=
 zqo h0 fun j y hy => zqq (fun q e => by
  have : j = i - 1 := by omega
  subst this;rw [hx] at hy;obtain rfl := Option.some.inj hy;rw [hj] at q
  cases q) (h j y hy)
theorem zmG {l : List ID}{i : Nat}{x : ID}(h0 : 0 < i)(hx : l[i - 1]? = some x)(hj : zgM x = true) : za3 l i = true := zmq hx (by
 unfold znG;rw [hj];have : ((i : Int) == ((i - 1 : Nat) : Int) + 1) = true := by simp; omega
 rw [this]
 rfl)
theorem zoG {l : List ID}{i j : Nat}{x : ID}(hx : l[j]? = some x)(ht : zcE j x = true)(hn : zdE j x = i) : za3 l i = true := zmq hx (by
 unfold znG;rw [ht,hn];simp)
theorem zkQ (c : Int)(A : Option Addr)(n cap : Nat)(l : List ID)(i : Nat)(w : World)(hh : zcJ w w.heap.size A n l)(hi : i < n)(hm : n < 9223372036854775808) :
  Calls prog 30 #[.agg #[.int .i64 c,.slice A n cap],.int .i64 i] w (zp7 (za3 l i) w) := by
 have HL := Hd hh.1
 have HE := Hd (EnF.new (c := c) (cap := cap) hh)
 clear hh
 by_cases h0 : i = 0
 ·subst h0
  have HB := Hd (zbo l)
  have HBL := Hd HE.out.below
  go_enter func30,ntmps30;go_wp2;go_ret;exact ⟨zjO HB.out.symm,HBL.out⟩
 ·have hd : ((i : Int) == 0) = false := by simp; omega
  have hi1 : (1 : Int) ≤ (i : Int) := by omega
  obtain ⟨ad,x,rfl,hab,hx,hxw,hcell⟩ := HE.out.ins.at_ (k := i - 1) (by omega);have HX := Hd hx
  have hkc := hcell 0 _ rfl;rw [za0] at hkc;have hk0 : (w.alloc (.cells #[.int .i64 c,.slice (some ad) n cap] 24)).cell? (ad.add ((i - 1) * 9)) = some (.int .i8 x.kind) := hkc;obtain ⟨kd,hkd⟩ : ∃ v,x.kind = v := ⟨_,rfl⟩;rw [hkd] at hk0;have HJ := Hd (show zgM x = (kd == 3 || (kd == 4 || kd == 6)) by unfold zgM; rw [hkd])
  have hti : ((i : Int) - 1).toNat = i - 1 := by omega
  have hlt1 : i - 1 < n := by omega
  clear hx hxw hcell hkc hkd;have HBL := Hd HE.out.below
  by_cases hjm : zgM x = true
  ·have HB := Hd (zmG (by omega) HX.out hjm)
   rw [HJ.out] at hjm;have hc3 : (kd == 3) = true ∨ ((kd == 3) = false ∧ (kd == 4) = true) ∨ ((kd == 3) = false ∧ (kd == 4) = false ∧ (kd == 6) = true) := by
    cases h3 : (kd == 3) <;> cases h4 : (kd == 4) <;> cases h6 : (kd == 6) <;> simp_all
   clear hjm
   rcases hc3 with h3 | ⟨h3,h4⟩ | ⟨h3,h4,h6⟩
   all_goals
    go_enter func30,ntmps30;go_wp2;go_ret;exact ⟨zjO HB.out.symm,HBL.out⟩
  ·have hjf : zgM x = false := by simpa using hjm
   have HJF := Hd hjf
   rw [HJ.out] at hjf;have h3 : (kd == 3) = false := by cases h : (kd == 3) <;> simp_all
   have h4 : (kd == 4) = false := by cases h : (kd == 4) <;> simp_all
   have h6 : (kd == 6) = false := by cases h : (kd == 6) <;> simp_all
   have c1 := HE.out.box1;clear hjm hjf;go_enter func30,ntmps30;go_wp2_with fail
   go_loopw [6] (fun v wr => ∃ k : Nat,k ≤ n ∧ v = .int .i64 k ∧ EnF c (some ad) n cap l w wr ∧ Hid (∀ (j : Nat) (y : ID),j < k → l[j]? = some y → zcE j y = true → zdE j y ≠ i)) (fun v _ => n - (intOf v).toNat)
   case atStart => exact ⟨0,by omega,rfl,HE.out,fun j y h => by omega⟩
   case round =>
    obtain ⟨k,hk,rfl,he,HT⟩ := hrel;clear HE c1 hk0;have HE := Hd he
    have c1 := he.box1;clear he
    by_cases hlt : k < n
    ·obtain ⟨ad2,y,hae,_,hy,hyw,hcy⟩ := HE.out.ins.at_ hlt
     injection hae with hae
     subst hae;have HY := Hd hy
     have HC := Hd hcy
     clear hy hyw hcy;go_wp2_with (first
      | (refine zae rfl 47 (.tmp 40) rfl (ad.add (k * 9)) (by rfl) y.cells _ HC.out underlying47 rfl ztc ?_)
      | fail)
     refine (zec k y _).mono ?_;rintro e w6 ⟨rfl,hb⟩;have HE6 := Hd (HE.out.step hb)
     have c16 := HE6.out.box1;clear hb c1
     cases ht : zcE k y
     ·have HNX := Hd (fun (j : Nat) (z : ID) (hj : j < k + 1) (hz : l[j]? = some z) (hz2 : zcE j z = true) => (by
       rcases ztH j k with h | h
       ·exact HT.out j z h hz hz2
       ·obtain rfl : j = k := by omega
        rw [HY.out] at hz;obtain rfl := Option.some.inj hz;rw [ht] at hz2;exact absurd hz2 (by decide) : zdE j z ≠ i))
      clear ht;go_wp2;go_roundw
      case measure => simp [intOf]; omega
      case rel => exact ⟨k + 1,by omega,by go_num,HE6.out,HNX.out⟩
     ·cases hq : (zdE k y == (i : Int))
      ·have HNX := Hd (fun (j : Nat) (z : ID) (hj : j < k + 1) (hz : l[j]? = some z) (hz2 : zcE j z = true) => (by
        rcases ztH j k with h | h
        ·exact HT.out j z h hz hz2
        ·obtain rfl : j = k := by omega
         rw [HY.out] at hz;obtain rfl := Option.some.inj hz
         simpa using hq : zdE j z ≠ i))
       clear ht;go_wp2;go_roundw
       case measure => simp [intOf]; omega
       case rel => exact ⟨k + 1,by omega,by go_num,HE6.out,HNX.out⟩
      ·have HB := Hd (zoG HY.out ht (by simpa using hq))
       clear ht;go_wp2;go_ret;exact ⟨zjO HB.out.symm,HE6.out.below⟩
    ·obtain rfl : k = n := by omega
     have HB := Hd (zmF (by omega) HX.out HJF.out (fun j y hy => HT.out j y (by have := (ztt.1 hy).1; rw [HL.out] at this; exact this) hy))
     go_wp2;go_ret;exact ⟨zjO HB.out.symm,HE.out.below⟩
end Go.Proofs.YtepagfkkjlbipaaGreat
