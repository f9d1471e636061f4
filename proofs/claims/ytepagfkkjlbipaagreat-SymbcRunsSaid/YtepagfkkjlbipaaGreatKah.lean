/-
  Parts of the proof of SymbcRuns. Conditions: those written in each statement.
-/
import Derived.Test.YtepagfkkjlbipaaGreatKag
set_option linter.unusedVariables false
set_option linter.unusedSimpArgs false
set_option maxHeartbeats 64000000
set_option maxRecDepth 100000
namespace Go.Proofs.YtepagfkkjlbipaaGreat
open Go.RowKit
open Tryz
section
def zgM (x : ID) : Bool := x.kind == 3 || (x.kind == 4 || x.kind == 6)
def znG (i : Nat)(x : ID)(v : Int) : Bool := (zgM x && (v == (i : Int) + 1)) || (zcE i x && (v == zdE i x))
def zmp (l : List ID)(k : Nat)(v : Int) : Bool := (v == 0) || (List.range k).any fun j => match l[j]? with
 | some x => znG j x v
 | none => false
theorem zh4 {l : List ID}{k : Nat}{x : ID}(hx : l[k]? = some x)(v : Int) : zmp l (k + 1) v = (zmp l k v || znG k x v) := by
 unfold zmp;rw [List.range_succ,List.any_append,Bool.or_assoc];simp [hx]
def za3 (l : List ID)(i : Nat) : Bool := zmp l l.length i
theorem zbo (l : List ID) : za3 l 0 = true := by unfold za3 zmp; simp
theorem zmq {l : List ID}{i j : Nat}{x : ID}(hx : l[j]? = some x)(h : znG j x i = true) : za3 l i = true := by
 unfold za3 zmp;rw [ztP]
 right;rw [List.any_eq_true];exact ⟨j,List.mem_range.2 (ztt.1 hx).1,by rw [hx]; exact h⟩
theorem zqo {l : List ID}{i : Nat}(h0 : 0 < i)(h : ∀ j x,l[j]? = some x → znG j x i = false) : za3 l i = false := by
 unfold za3 zmp;rw [Bool.or_eq_false_iff];refine ⟨by simp; omega,?_⟩;rw [List.any_eq_false];intro j hj;have hj' := List.mem_range.1 hj;rw [ztq hj'];simp [h j _ (ztq hj')]
def zqp (q : List (Int × Int))(t : Int) : List (Int × Int) := q.dropLast ++ [((q.getLast?.map (·.1)).getD 0,t)]
theorem zfw (r : List (Int × Int))(f s t : Int) : zqp (r ++ [(f,s)]) t = r ++ [(f,t)] := by unfold zqp; simp
def zcS (B : Nat → Bool) : Nat → List (Int × Int)
 | 0 => []
 | k + 1 => zqp (if B k then zcS B k ++ [((k : Int),0)] else zcS B k) ((k : Int) + 1)
def zbU (B : Nat → Bool)(k : Nat) : List (Int × Int) := if B k then zcS B k ++ [((k : Int),0)] else zcS B k
theorem zcB (B : Nat → Bool)(k : Nat) : zcS B (k + 1) = zqp (zbU B k) ((k : Int) + 1) := by rw [zcS]; rfl
theorem zhn {B : Nat → Bool}{k : Nat}(h : B k = true) : zcS B (k + 1) = zcS B k ++ [((k : Int),(k : Int) + 1)] := by
 rw [zcB];unfold zbU;rw [if_pos h,zfw]
structure BI (B : Nat → Bool)(k : Nat)(q : List (Int × Int)) : Prop where
 ne : 0 < q.length
 le : q.length ≤ k
 fst : ∀ p,q[0]? = some p → p.1 = 0
 lst : ∀ p,q[q.length - 1]? = some p → p.2 = k
 nxt : ∀ (b : Nat) p p',q[b]? = some p → q[b + 1]? = some p' → p.2 = p'.1
 lt : ∀ (b : Nat) p,q[b]? = some p → 0 ≤ p.1 ∧ p.1 < p.2 ∧ p.2 ≤ k
 beg : ∀ (b : Nat) p,q[b]? = some p → ∃ i : Nat,p.1 = i ∧ B i = true
 mid : ∀ (b : Nat) p,q[b]? = some p → ∀ i : Nat,p.1 < i → (i : Int) < p.2 → B i = false
theorem zcn {α : Type}{r : List α}{a : α}{b : Nat}{p : α}(h : (r ++ [a])[b]? = some p) : (b < r.length ∧ r[b]? = some p) ∨ (b = r.length ∧ p = a) := by
 rw [List.getElem?_append] at h
 split at h
 ·rename_i q; exact .inl ⟨q,h⟩
 ·rename_i q
  right;have hb : b - r.length = 0 := by
   rcases zt9 (b - r.length) with e | e
   ·exact e
   ·rw [zul (by simp; omega)] at h; cases h
  rw [hb] at h;simp at h;exact ⟨by omega,h.symm⟩
theorem zfx {α : Type}(r : List α)(a : α) : (r ++ [a])[(r ++ [a]).length - 1]? = some a := by simp
theorem zcs {B : Nat → Bool}(h0 : B 0 = true) : ∀ k,0 < k → BI B k (zcS B k) := by
 intro k
 induction k with
 | zero => intro h; omega
 | succ k ih =>
  intro _
  cases hB : B k with
  | true =>
   rw [zhn hB]
   rcases zt9 k with hk | hk
   ·subst hk
    show BI B 1 [((0 : Nat),((0 : Nat) : Int) + 1)]
    refine ⟨by simp,by simp,?_,?_,?_,?_,?_,?_⟩
    ·intro p hp; simp at hp; subst hp; rfl
    ·intro p hp; simp at hp; subst hp; rfl
    ·intro b p p' hp hp'; simp at hp'
    ·intro b p hp; cases b <;> simp at hp; subst hp; simp
    ·intro b p hp; cases b <;> simp at hp; subst hp; exact ⟨0,rfl,h0⟩
    ·intro b p hp i h1 h2; cases b <;> simp at hp; subst hp; simp at h1 h2; omega
   ·have I := ih hk
    have hl := I.lst;refine ⟨by simp,by have := I.le; simp; omega,?_,?_,?_,?_,?_,?_⟩
    ·intro p hp
     rcases zcn hp with ⟨_,q⟩ | ⟨q,_⟩
     ·exact I.fst p q
     ·have := I.ne; omega
    ·intro p hp
     rw [zfx] at hp;injection hp with hp
     subst hp;simp
    ·intro b p p' hp hp'
     rcases zcn hp' with ⟨q1,q2⟩ | ⟨q1,rfl⟩
     ·rcases zcn hp with ⟨_,q⟩ | ⟨q,_⟩
      ·exact I.nxt b p p' q q2
      ·omega
     ·rcases zcn hp with ⟨_,q⟩ | ⟨q,_⟩
      ·exact hl p (by rw [← q1]; simpa using q)
      ·omega
    ·intro b p hp
     rcases zcn hp with ⟨_,q⟩ | ⟨_,rfl⟩
     ·have := I.lt b p q; omega
     ·simp; omega
    ·intro b p hp
     rcases zcn hp with ⟨_,q⟩ | ⟨_,rfl⟩
     ·exact I.beg b p q
     ·exact ⟨k,rfl,hB⟩
    ·intro b p hp i h1 h2
     rcases zcn hp with ⟨_,q⟩ | ⟨_,rfl⟩
     ·exact I.mid b p q i h1 h2
     ·simp at h1 h2; omega
  | false =>
   have hk : 0 < k := by
    rcases zt9 k with h | h
    ·subst h; rw [h0] at hB; cases hB
    ·exact h
   have I := ih hk;rw [zcB];unfold zbU;rw [if_neg (by rw [hB]; simp)]
   rcases List.eq_nil_or_concat (zcS B k) with h | ⟨r,⟨f,t⟩,h⟩
   ·have := I.ne; rw [h] at this; simp at this
   ·rw [List.concat_eq_append] at h
    rw [h] at I ⊢;rw [zfw];have hl := I.lst _ (zfx r (f,t));have hlast : (r ++ [(f,t)])[r.length]? = some (f,t) := by simp
    have hrow : ∀ b p,r[b]? = some p → (r ++ [(f,t)])[b]? = some p := fun b p q => by
     rw [ztJ (ztt.1 q).1]; exact q
    have h3 := I.lt _ _ hlast;dsimp only at hl h3;refine ⟨by simp,by have := I.le; simp at this ⊢; omega,?_,?_,?_,?_,?_,?_⟩
    ·intro p hp
     rcases zcn hp with ⟨_,q⟩ | ⟨q,rfl⟩
     ·exact I.fst p (hrow _ _ q)
     ·exact I.fst (f,t) (by rw [q]; exact hlast)
    ·intro p hp
     rw [zfx] at hp;injection hp with hp
     subst hp;simp
    ·intro b p p' hp hp'
     rcases zcn hp' with ⟨q1,q2⟩ | ⟨q1,rfl⟩
     ·rcases zcn hp with ⟨_,q⟩ | ⟨q,_⟩
      ·exact I.nxt b p p' (hrow _ _ q) (hrow _ _ q2)
      ·omega
     ·rcases zcn hp with ⟨_,q⟩ | ⟨q,_⟩
      ·exact I.nxt b p (f,t) (hrow _ _ q) (by rw [q1]; exact hlast)
      ·omega
    ·intro b p hp
     rcases zcn hp with ⟨_,q⟩ | ⟨_,rfl⟩
     ·have := I.lt b p (hrow _ _ q); omega
     ·dsimp only; omega
    ·intro b p hp
     rcases zcn hp with ⟨_,q⟩ | ⟨_,rfl⟩
     ·exact I.beg b p (hrow _ _ q)
     ·obtain ⟨i,h1,h2⟩ := I.beg _ _ hlast
      exact ⟨i,h1,h2⟩
    ·intro b p hp i h1 h2
     rcases zcn hp with ⟨_,q⟩ | ⟨_,rfl⟩
     ·exact I.mid b p (hrow _ _ q) i h1 h2
     ·dsimp only at h1 h2
      by_cases e : i = k
      ·rw [e]; exact hB
      ·exact I.mid _ _ hlast i h1 (by dsimp only; omega)
def ofT (B : Nat → Bool)(i : Nat) : Nat := (zcS B (i + 1)).length - 1
theorem zta {B : Nat → Bool}(h0 : B 0 = true)(i : Nat) : ∀ k,i + 1 ≤ k → ∃ f t,(zcS B k)[ofT B i]? = some (f,t) ∧ f ≤ i ∧ (i : Int) < t ∧ (B i = true → f = i) := by
 intro k
 induction k with
 | zero => intro h; omega
 | succ k ih =>
  intro hk
  by_cases e : i = k
  ·subst e
   have I := zcs h0 (i + 1) (by omega);unfold ofT;have hx : (zcS B (i + 1))[(zcS B (i + 1)).length - 1]? = some ((zcS B (i + 1))[(zcS B (i + 1)).length - 1]'(by have := I.ne; omega)) := ztq _;generalize (zcS B (i + 1))[(zcS B (i + 1)).length - 1]'(by have := I.ne; omega) = p at hx;obtain ⟨f,t⟩ := p;have h1 := I.lst _ hx;have h2 := I.lt _ _ hx;dsimp only at h1 h2;refine ⟨f,t,hx,by omega,by omega,fun hB => ?_⟩;rw [zhn hB,zfx] at hx;injection hx with hx
   injection hx with hx _
   exact hx.symm
  ·obtain ⟨f,t,h1,h2,h3,h4⟩ := ih (by omega)
   cases hB : B k with
   | true =>
    rw [zhn hB];exact ⟨f,t,by rw [ztJ (ztt.1 h1).1]; exact h1,h2,h3,h4⟩
   | false =>
    have I := zcs h0 k (by omega);rw [zcB];unfold zbU;rw [if_neg (by rw [hB]; simp)]
    rcases List.eq_nil_or_concat (zcS B k) with h | ⟨r,⟨f',t'⟩,h⟩
    ·have := I.ne; rw [h] at this; simp at this
    ·rw [List.concat_eq_append] at h
     rw [h] at h1 I ⊢;rw [zfw]
     rcases zcn h1 with ⟨q1,q2⟩ | ⟨q1,q2⟩
     ·exact ⟨f,t,by rw [ztJ q1]; exact q2,h2,h3,h4⟩
     ·injection q2 with q2 q3
      subst q2 q3;exact ⟨f,(k : Int) + 1,by rw [q1]; simp,h2,by omega,h4⟩
theorem zoy {B : Nat → Bool}{k : Nat}{q : List (Int × Int)}(I : BI B k q){b c : Nat}{p p' : Int × Int}(hb : q[b]? = some p)(hc : q[c]? = some p')(h : b < c) : p.2 ≤ p'.1 := by
 induction c generalizing p' with
 | zero => omega
 | succ c ih =>
  have hlt := (ztt.1 hc).1;have hx : q[c]? = some q[c] := ztq (by omega);have h1 := I.nxt c _ _ hx hc
  by_cases e : b = c
  ·subst e
   rw [hb] at hx;obtain rfl := Option.some.inj hx;omega
  ·have h2 := ih hx (by omega)
   have h3 := I.lt _ _ hx;omega
end
section
theorem zbn (x : Int)(w : World) : Calls prog 68 #[.int .i8 x] w fun e w' => e = .returned (.bool (wdB x)) ∧ w = w' := by
 cases h8 : (x == 8)
 ·cases h16 : (x == 16)
  ·cases h32 : (x == 32)
   ·cases h64 : (x == 64)
    all_goals
     go_enter func68,ntmps68;go_wp2;go_ret;exact ⟨by unfold wdB; simp [h8,h16,h32,h64],rfl⟩
   ·go_enter func68,ntmps68
    go_wp2;go_ret;exact ⟨by unfold wdB; simp [h8,h16,h32],rfl⟩
  ·go_enter func68,ntmps68
   go_wp2;go_ret;exact ⟨by unfold wdB; simp [h8,h16],rfl⟩
 ·go_enter func68,ntmps68
  go_wp2;go_ret;exact ⟨by unfold wdB; simp [h8],rfl⟩
theorem zb2 (x : Int)(w : World) : Calls prog 101 #[.int .i8 x] w fun e w' => e = .returned (.bool (zcb x)) ∧ w = w' := by
 cases h32 : (x == 32)
 ·go_enter func101,ntmps101
  go_wp2;go_ret;exact ⟨by unfold zcb; simp [h32],rfl⟩
 ·go_enter func101,ntmps101
  go_wp2;go_ret;exact ⟨by unfold zcb; simp [h32],rfl⟩
theorem zf6 (n : Int)(h0 : 0 ≤ n)(h1 : n < 2 ^ 64) : IntKind.u64.wrap n = n := by rw [IntKind.wrap_u64]; omega
theorem zoz {v : Int}(hv : 0 ≤ v ∧ v < 18446744073709551616) : bits .and .u64 v 255 = v % 256 ∧ bits .and .u64 v 65535 = v % 65536 ∧ bits .and .u64 v 4294967295 = v % 4294967296 := by
 refine ⟨?_,?_,?_⟩
 ·exact bits_mask .u64 64 (by decide) zf6 8 (by decide) v hv.1 (by omega)
 ·exact bits_mask .u64 64 (by decide) zf6 16 (by decide) v hv.1 (by omega)
 ·exact bits_mask .u64 64 (by decide) zf6 32 (by decide) v hv.1 (by omega)
theorem zaH (v x : Int)(hv : U64 v)(w : World) : Calls prog 32 #[.int .u64 v,.int .i8 x] w fun e w' => e = .returned (.int .u64 (zao x v)) ∧ w = w' := by
 have hm := Hd (zoz hv)
 clear hv
 cases h8 : (x == 8);rotate_left
 ·obtain rfl : x = 8 := by simpa using h8
  go_enter func32,ntmps32;go_wp2_with fail
  refine (zbn _ _).mono ?_;rintro e w' ⟨rfl,rfl⟩;go_wp2;go_ret;exact ⟨zeu (by have := hm.out; unfold zao; simp; omega),rfl⟩
 cases h16 : (x == 16);rotate_left
 ·obtain rfl : x = 16 := by simpa using h16
  go_enter func32,ntmps32;go_wp2_with fail
  refine (zbn _ _).mono ?_;rintro e w' ⟨rfl,rfl⟩;go_wp2;go_ret;exact ⟨zeu (by have := hm.out; unfold zao; simp; omega),rfl⟩
 cases h32 : (x == 32);rotate_left
 ·obtain rfl : x = 32 := by simpa using h32
  go_enter func32,ntmps32;go_wp2_with fail
  refine (zbn _ _).mono ?_;rintro e w' ⟨rfl,rfl⟩;go_wp2;go_ret;exact ⟨zeu (by have := hm.out; unfold zao; simp; omega),rfl⟩
 cases h64 : (x == 64);rotate_left
 ·obtain rfl : x = 64 := by simpa using h64
  go_enter func32,ntmps32;go_wp2_with fail
  refine (zbn _ _).mono ?_;rintro e w' ⟨rfl,rfl⟩;go_wp2;go_ret;exact ⟨rfl,rfl⟩
 have hw : wdB x = false := by unfold wdB; simp [h8,h16,h32,h64]
 have e : zao x v = v := by simp at h8 h16 h32; unfold zao; simp [h8,h16,h32]
 rw [e];clear e;go_enter func32,ntmps32;go_wp2_with fail
 refine (zbn _ _).mono ?_;rintro e w' ⟨rfl,rfl⟩;rw [hw];go_wp2;go_ret;exact ⟨rfl,rfl⟩
theorem zb3 {x : Int}(v : Int)(hx : x = 32 ∨ x = 64)(hv : U64 v)(w : World) : Calls prog 102 #[.int .u64 v,.int .i8 x] w fun e w' => e = .returned (.int .u64 (zbj x v)) ∧ w = w' := by
 have hc := ziR (x := x) hv
 rcases hx with rfl | rfl
 ·have hv2 : zao 32 v = v % 4294967296 := by unfold zao; simp
  have HVU := Hd hv
  have hb : bits .and .u64 (zao 32 v / 2147483648) 1 = zao 32 v / 2147483648 % 2 := bits_mask .u64 64 (by decide) zf6 1 (by decide) _ (by omega) (by omega)
  cases hs : (zao 32 v / 2147483648 % 2 == 1)
  ·have hs' : ¬ zao 32 v / 2147483648 % 2 = 1 := by simpa using hs
   have HC := Hd hc
   have HS := Hd hs'
   have HV2 := Hd hv2
   clear hc hv hv2;go_enter func102,ntmps102;go_wp2_with fail
   refine (zbn _ _).mono ?_;rintro e w' ⟨rfl,rfl⟩;go_wp2_with fail
   refine (zaH _ _ HVU.out _).mono ?_;rintro e w' ⟨rfl,rfl⟩;go_wp2;go_ret;exact ⟨zeu (by
    have h1 := HC.out; have h2 := HS.out; have h3 := HV2.out;unfold zbj wrap64;simp [IntKind.wrap_u64,IntKind.wrap_i32,wrap32];omega),rfl⟩
  ·have hs' : zao 32 v / 2147483648 % 2 = 1 := by simpa using hs
   have HC := Hd hc
   have HS := Hd hs'
   have HV2 := Hd hv2
   clear hc hv hv2;go_enter func102,ntmps102;go_wp2_with fail
   refine (zbn _ _).mono ?_;rintro e w' ⟨rfl,rfl⟩;go_wp2_with fail
   refine (zaH _ _ HVU.out _).mono ?_;rintro e w' ⟨rfl,rfl⟩;go_wp2;go_ret;exact ⟨zeu (by
    have h1 := HC.out; have h2 := HS.out; have h3 := HV2.out;unfold zbj wrap64;simp [IntKind.wrap_u64,IntKind.wrap_i32,wrap32];omega),rfl⟩
 ·have HVU := Hd hv
  have hc64 : zao 64 v = v := by unfold zao; simp
  have hsg : zbj 64 v = v := by unfold zbj; simp
  have hb : bits .and .u64 (v / 9223372036854775808) 1 = v / 9223372036854775808 % 2 := bits_mask .u64 64 (by decide) zf6 1 (by decide) _ (by unfold U64 at hv; omega) (by unfold U64 at hv; omega);rw [hsg]
  cases hs : (v / 9223372036854775808 % 2 == 1)
  all_goals
   go_enter func102,ntmps102;go_wp2_with fail
   refine (zbn _ _).mono ?_;rintro e w' ⟨rfl,rfl⟩;go_wp2_with fail
   refine (zaH _ _ HVU.out _).mono ?_;rintro e w' ⟨rfl,rfl⟩;rw [hc64];go_wp2;go_ret;exact ⟨rfl,rfl⟩
theorem zgN (n : Int) : U64 (IntKind.u64.wrap n) := by unfold U64; rw [IntKind.wrap_u64]; omega
theorem zgO (o : BinOp)(a b : Int) : U64 (bits o .u64 a b) := by
 have h := bits_within o .u64 a b;have h1 : IntKind.u64.min = 0 := rfl;have h2 : IntKind.u64.max = 18446744073709551615 := rfl;unfold U64;rw [h1,h2] at h;omega
theorem zfe {x v : Int}(h : U64 v) : U64 (zao x v) := by
 have := ziR (x := x) h;unfold U64;omega
theorem zgP {a : Int}(y : Int)(ha : U64 a) : U64 (a / 2 ^ y.toNat) := by
 unfold U64 at *;have h1 : (0 : Int) < 2 ^ y.toNat := Int.pow_pos (by omega);exact ⟨Int.ediv_nonneg ha.1 (by omega),Int.lt_of_le_of_lt (Int.ediv_le_self _ ha.1) ha.2⟩
theorem zgQ {a b : Int}(ha : U64 a)(hb : U64 b)(h0 : 0 < b) : U64 (a.tmod b) := by
 unfold U64 at *;rw [Int.tmod_eq_emod_of_nonneg ha.1];have := Int.emod_lt_of_pos a h0;exact ⟨Int.emod_nonneg _ (by omega),by omega⟩
theorem zkM {a b k : Int}(h : a = b) : Ending.returned (.tuple #[.int .u64 a,.int .i64 k]) = .returned (.tuple #[.int .u64 b,.int .i64 k]) := by rw [h]
theorem zrG {op : Int}(h : 0 ≤ op ∧ op ≤ 12)(a b : Int)(hA : U64 a)(hB : U64 b)(w : World) : Calls prog 59 #[.int .i8 op,.int .i8 32,.int .u64 a,.int .u64 b] w fun e w' => e = .returned (.tuple #[.int .u64 (doU op 32 a b),.int .i64 0]) ∧ w = w' := by
 have HA := Hd hA
 have HB := Hd hB
 have HCA := Hd (zfe (x := 32) hA)
 have HCB := Hd (zfe (x := 32) hB)
 have hyb := zmD (x := 32) (by omega) hB;obtain ⟨y,hy⟩ : ∃ y,bits .and .u64 (zao 32 b) 31 = y := ⟨_,rfl⟩;have HBY := Hd (show y = byV 32 b from hy.symm)
 rw [← HBY.out] at hyb;obtain ⟨hy0,hy1⟩ := hyb;clear hA hB;have hops : (op = 3 ∨ op = 9) ∨ (op = 0 ∨ op = 1 ∨ op = 2 ∨ op = 4 ∨ op = 5 ∨ op = 6 ∨ op = 7 ∨ op = 8 ∨ op = 10 ∨ op = 11 ∨ op = 12) := by omega
 clear h
 rcases hops with hops | hops
 ·cases hz : decide (0 < zao 32 b)
  ·have HZ := Hd (show zao 32 b = 0 by have := HCB.out; unfold U64 at this; simp at hz; omega)
   rcases hops with rfl | rfl
   all_goals
    go_enter func59,ntmps59;go_wp2_with fail
    refine (zb2 _ _).mono ?_;rintro e w' ⟨rfl,rfl⟩;go_wp2_with fail
    refine (zaH a 32 HA.out _).mono ?_;rintro e w' ⟨rfl,rfl⟩;go_wp2_with fail
    refine (zaH b 32 HB.out _).mono ?_;rintro e w' ⟨rfl,rfl⟩;go_wp2_with fail
    try
     refine (zb3 (x := 32) _ (by omega) HCA.out _).mono ?_;rintro e w' ⟨rfl,rfl⟩;go_wp2_with fail
    refine (zaH _ 32 (by first | exact zgN _ | exact zgO _ _ _ | exact zgP _ HCA.out | exact HCB.out | exact HCA.out | exact zgQ HCA.out HCB.out HZ.out | (unfold U64; omega)) _).mono ?_;rintro e w' ⟨rfl,rfl⟩;go_wp2;go_ret2;exact ⟨zkM (by unfold doU doV; rw [HZ.out]; simp),rfl⟩
  ·have HZ := Hd (show 0 < zao 32 b by simpa using hz)
   have hz0 : ¬ zao 32 b = 0 := by have := HZ.out; omega
   rcases hops with rfl | rfl
   all_goals
    go_enter func59,ntmps59;go_wp2_with fail
    refine (zb2 _ _).mono ?_;rintro e w' ⟨rfl,rfl⟩;go_wp2_with fail
    refine (zaH a 32 HA.out _).mono ?_;rintro e w' ⟨rfl,rfl⟩;go_wp2_with fail
    refine (zaH b 32 HB.out _).mono ?_;rintro e w' ⟨rfl,rfl⟩;go_wp2_with fail
    try
     refine (zb3 (x := 32) _ (by omega) HCA.out _).mono ?_;rintro e w' ⟨rfl,rfl⟩;go_wp2_with fail
    refine (zaH _ 32 (by first | exact zgN _ | exact zgO _ _ _ | exact zgP _ HCA.out | exact HCB.out | exact HCA.out | exact zgQ HCA.out HCB.out HZ.out | (unfold U64; omega)) _).mono ?_;rintro e w' ⟨rfl,rfl⟩;go_wp2;go_ret2;exact ⟨zkM (by have h := HZ.out; have h2 : ¬ zao 32 b = 0 := (by omega); unfold doU doV; simp [h2]),rfl⟩
 ·rcases hops with rfl | rfl | rfl | rfl | rfl | rfl | rfl | rfl | rfl | rfl | rfl
  all_goals
   go_enter func59,ntmps59;go_wp2_with fail
   refine (zb2 _ _).mono ?_;rintro e w' ⟨rfl,rfl⟩;go_wp2_with fail
   refine (zaH a 32 HA.out _).mono ?_;rintro e w' ⟨rfl,rfl⟩;go_wp2_with fail
   refine (zaH b 32 HB.out _).mono ?_;rintro e w' ⟨rfl,rfl⟩;go_wp2_with fail
   try
    refine (zb3 (x := 32) _ (by omega) HCA.out _).mono ?_;rintro e w' ⟨rfl,rfl⟩;go_wp2_with fail
   refine (zaH _ 32 (by first | exact zgN _ | exact zgO _ _ _ | exact zgP _ HCA.out | exact HCB.out | exact HCA.out | exact zgQ HCA.out HCB.out HZ.out | (unfold U64; omega)) _).mono ?_;rintro e w' ⟨rfl,rfl⟩;go_wp2;go_ret2;exact ⟨zkM (by unfold doU; rw [← HBY.out]; rfl),rfl⟩
theorem zrH {op : Int}(h : 0 ≤ op ∧ op ≤ 12)(a b : Int)(hA : U64 a)(hB : U64 b)(w : World) : Calls prog 59 #[.int .i8 op,.int .i8 64,.int .u64 a,.int .u64 b] w fun e w' => e = .returned (.tuple #[.int .u64 (doU op 64 a b),.int .i64 0]) ∧ w = w' := by
 have HA := Hd hA
 have HB := Hd hB
 have HCA := Hd (zfe (x := 64) hA)
 have HCB := Hd (zfe (x := 64) hB)
 have hyb := zmD (x := 64) (by omega) hB;obtain ⟨y,hy⟩ : ∃ y,bits .and .u64 (zao 64 b) 63 = y := ⟨_,rfl⟩;have HBY := Hd (show y = byV 64 b from hy.symm)
 rw [← HBY.out] at hyb;obtain ⟨hy0,hy1⟩ := hyb;clear hA hB;have hops : (op = 3 ∨ op = 9) ∨ (op = 0 ∨ op = 1 ∨ op = 2 ∨ op = 4 ∨ op = 5 ∨ op = 6 ∨ op = 7 ∨ op = 8 ∨ op = 10 ∨ op = 11 ∨ op = 12) := by omega
 clear h
 rcases hops with hops | hops
 ·cases hz : decide (0 < zao 64 b)
  ·have HZ := Hd (show zao 64 b = 0 by have := HCB.out; unfold U64 at this; simp at hz; omega)
   rcases hops with rfl | rfl
   all_goals
    go_enter func59,ntmps59;go_wp2_with fail
    refine (zb2 _ _).mono ?_;rintro e w' ⟨rfl,rfl⟩;go_wp2_with fail
    refine (zaH a 64 HA.out _).mono ?_;rintro e w' ⟨rfl,rfl⟩;go_wp2_with fail
    refine (zaH b 64 HB.out _).mono ?_;rintro e w' ⟨rfl,rfl⟩;go_wp2_with fail
    try
     refine (zb3 (x := 64) _ (by omega) HCA.out _).mono ?_;rintro e w' ⟨rfl,rfl⟩;go_wp2_with fail
    refine (zaH _ 64 (by first | exact zgN _ | exact zgO _ _ _ | exact zgP _ HCA.out | exact HCB.out | exact HCA.out | exact zgQ HCA.out HCB.out HZ.out | (unfold U64; omega)) _).mono ?_;rintro e w' ⟨rfl,rfl⟩;go_wp2;go_ret2;exact ⟨zkM (by unfold doU doV; rw [HZ.out]; simp),rfl⟩
  ·have HZ := Hd (show 0 < zao 64 b by simpa using hz)
   have hz0 : ¬ zao 64 b = 0 := by have := HZ.out; omega
   rcases hops with rfl | rfl
   all_goals
    go_enter func59,ntmps59;go_wp2_with fail
    refine (zb2 _ _).mono ?_;rintro e w' ⟨rfl,rfl⟩;go_wp2_with fail
    refine (zaH a 64 HA.out _).mono ?_;rintro e w' ⟨rfl,rfl⟩;go_wp2_with fail
    refine (zaH b 64 HB.out _).mono ?_;rintro e w' ⟨rfl,rfl⟩;go_wp2_with fail
    try
     refine (zb3 (x := 64) _ (by omega) HCA.out _).mono ?_;rintro e w' ⟨rfl,rfl⟩;go_wp2_with fail
    refine (zaH _ 64 (by first | exact zgN _ | exact zgO _ _ _ | exact zgP _ HCA.out | exact HCB.out | exact HCA.out | exact zgQ HCA.out HCB.out HZ.out | (unfold U64; omega)) _).mono ?_;rintro e w' ⟨rfl,rfl⟩;go_wp2;go_ret2;exact ⟨zkM (by have h := HZ.out; have h2 : ¬ zao 64 b = 0 := (by omega); unfold doU doV; simp [h2]),rfl⟩
 ·rcases hops with rfl | rfl | rfl | rfl | rfl | rfl | rfl | rfl | rfl | rfl | rfl
  all_goals
   go_enter func59,ntmps59;go_wp2_with fail
   refine (zb2 _ _).mono ?_;rintro e w' ⟨rfl,rfl⟩;go_wp2_with fail
   refine (zaH a 64 HA.out _).mono ?_;rintro e w' ⟨rfl,rfl⟩;go_wp2_with fail
   refine (zaH b 64 HB.out _).mono ?_;rintro e w' ⟨rfl,rfl⟩;go_wp2_with fail
   try
    refine (zb3 (x := 64) _ (by omega) HCA.out _).mono ?_;rintro e w' ⟨rfl,rfl⟩;go_wp2_with fail
   refine (zaH _ 64 (by first | exact zgN _ | exact zgO _ _ _ | exact zgP _ HCA.out | exact HCB.out | exact HCA.out | exact zgQ HCA.out HCB.out HZ.out | (unfold U64; omega)) _).mono ?_;rintro e w' ⟨rfl,rfl⟩;go_wp2;go_ret2;exact ⟨zkM (by unfold doU; rw [← HBY.out]; rfl),rfl⟩
theorem zcd (u v : Int) : (zcw u v == 0) = (u == v) ∧ (zcw u v != 0) = (u != v) ∧ decide (0 < zcw u v) = decide (v < u) ∧ decide (0 ≤ zcw u v) = decide (v ≤ u) ∧ decide (zcw u v < 0) = decide (u < v) ∧ decide (zcw u v ≤ 0) = decide (u ≤ v) := by
 unfold zcw bne
 by_cases h1 : u < v
 ·rw [if_pos h1]
  have h2 : (u == v) = false := by simp; omega
  have h3 : ¬ v < u := by omega
  have h4 : ¬ v ≤ u := by omega
  have h5 : u ≤ v := by omega
  simp [h1,h2,h3,h4,h5]
 ·rw [if_neg h1]
  by_cases h2 : v < u
  ·rw [if_pos h2]
   have h3 : (u == v) = false := by simp; omega
   have h4 : v ≤ u := by omega
   have h5 : ¬ u ≤ v := by omega
   simp [h1,h2,h3,h4,h5]
  ·rw [if_neg h2]
   have h3 : u = v := by omega
   subst h3;simp
theorem zce {a b : Bool}{k : Int}(h : a = b) : Ending.returned (.tuple #[.bool a,.int .i64 k]) = .returned (.tuple #[.bool b,.int .i64 k]) := by rw [h]
theorem zmr {cc : Int}(h : 0 ≤ cc ∧ cc ≤ 10)(a b : Int)(hA : U64 a)(hB : U64 b)(w : World) : Calls prog 65 #[.int .i8 cc,.int .i8 32,.int .u64 a,.int .u64 b] w fun e w' => e = .returned (.tuple #[.bool (zaJ cc 32 a b),.int .i64 0]) ∧ w = w' := by
 have HA := Hd hA
 have HB := Hd hB
 have HCA := Hd (zfe (x := 32) hA)
 have HCB := Hd (zfe (x := 32) hB)
 clear hA hB;have hops : cc = 0 ∨ cc = 1 ∨ cc = 2 ∨ cc = 3 ∨ cc = 4 ∨ cc = 5 ∨ cc = 6 ∨ cc = 7 ∨ cc = 8 ∨ cc = 9 ∨ cc = 10 := by omega
 clear h
 rcases hops with rfl | rfl | rfl | rfl | rfl | rfl | rfl | rfl | rfl | rfl | rfl
 all_goals
  go_enter func65,ntmps65;go_wp2_with fail
  refine (zb2 _ _).mono ?_;rintro e w' ⟨rfl,rfl⟩;go_wp2_with fail
  refine (zaH a 32 HA.out _).mono ?_;rintro e w' ⟨rfl,rfl⟩;go_wp2_with fail
  refine (zaH b 32 HB.out _).mono ?_;rintro e w' ⟨rfl,rfl⟩;go_wp2_with fail
  refine (zb3 (x := 32) _ (by omega) HCA.out _).mono ?_;rintro e w' ⟨rfl,rfl⟩;go_wp2_with fail
  refine (zb3 (x := 32) _ (by omega) HCB.out _).mono ?_;rintro e w' ⟨rfl,rfl⟩;go_wp2;go_ret2;exact ⟨by first | rfl | exact zce (by show _ = (zcw (zao 32 a) (zao 32 b) == 0); rw [(zcd (zao 32 a) (zao 32 b)).1]) | exact zce (by show _ = (zcw (zao 32 a) (zao 32 b) != 0); rw [(zcd (zao 32 a) (zao 32 b)).2.1]) | exact zce (by show _ = decide (0 < zcw (zao 32 a) (zao 32 b)); rw [(zcd (zao 32 a) (zao 32 b)).2.2.1]) | exact zce (by show _ = decide (0 ≤ zcw (zao 32 a) (zao 32 b)); rw [(zcd (zao 32 a) (zao 32 b)).2.2.2.1]) | exact zce (by show _ = decide (zcw (zao 32 a) (zao 32 b) < 0); rw [(zcd (zao 32 a) (zao 32 b)).2.2.2.2.1]) | exact zce (by show _ = decide (zcw (zao 32 a) (zao 32 b) ≤ 0); rw [(zcd (zao 32 a) (zao 32 b)).2.2.2.2.2]) | exact zce (by show _ = decide (0 < zcw (wrap64 (zbj 32 (zao 32 a))) (wrap64 (zbj 32 (zao 32 b)))); rw [(zcd (wrap64 (zbj 32 (zao 32 a))) (wrap64 (zbj 32 (zao 32 b)))).2.2.1]) | exact zce (by show _ = decide (0 ≤ zcw (wrap64 (zbj 32 (zao 32 a))) (wrap64 (zbj 32 (zao 32 b)))); rw [(zcd (wrap64 (zbj 32 (zao 32 a))) (wrap64 (zbj 32 (zao 32 b)))).2.2.2.1]) | exact zce (by show _ = decide (zcw (wrap64 (zbj 32 (zao 32 a))) (wrap64 (zbj 32 (zao 32 b))) < 0); rw [(zcd (wrap64 (zbj 32 (zao 32 a))) (wrap64 (zbj 32 (zao 32 b)))).2.2.2.2.1]) | exact zce (by show _ = decide (zcw (wrap64 (zbj 32 (zao 32 a))) (wrap64 (zbj 32 (zao 32 b))) ≤ 0); rw [(zcd (wrap64 (zbj 32 (zao 32 a))) (wrap64 (zbj 32 (zao 32 b)))).2.2.2.2.2]),rfl⟩
theorem zms {cc : Int}(h : 0 ≤ cc ∧ cc ≤ 10)(a b : Int)(hA : U64 a)(hB : U64 b)(w : World) : Calls prog 65 #[.int .i8 cc,.int .i8 64,.int .u64 a,.int .u64 b] w fun e w' => e = .returned (.tuple #[.bool (zaJ cc 64 a b),.int .i64 0]) ∧ w = w' := by
 have HA := Hd hA
 have HB := Hd hB
 have HCA := Hd (zfe (x := 64) hA)
 have HCB := Hd (zfe (x := 64) hB)
 clear hA hB;have hops : cc = 0 ∨ cc = 1 ∨ cc = 2 ∨ cc = 3 ∨ cc = 4 ∨ cc = 5 ∨ cc = 6 ∨ cc = 7 ∨ cc = 8 ∨ cc = 9 ∨ cc = 10 := by omega
 clear h
 rcases hops with rfl | rfl | rfl | rfl | rfl | rfl | rfl | rfl | rfl | rfl | rfl
 all_goals
  go_enter func65,ntmps65;go_wp2_with fail
  refine (zb2 _ _).mono ?_;rintro e w' ⟨rfl,rfl⟩;go_wp2_with fail
  refine (zaH a 64 HA.out _).mono ?_;rintro e w' ⟨rfl,rfl⟩;go_wp2_with fail
  refine (zaH b 64 HB.out _).mono ?_;rintro e w' ⟨rfl,rfl⟩;go_wp2_with fail
  refine (zb3 (x := 64) _ (by omega) HCA.out _).mono ?_;rintro e w' ⟨rfl,rfl⟩;go_wp2_with fail
  refine (zb3 (x := 64) _ (by omega) HCB.out _).mono ?_;rintro e w' ⟨rfl,rfl⟩;go_wp2;go_ret2;exact ⟨by first | rfl | exact zce (by show _ = (zcw (zao 64 a) (zao 64 b) == 0); rw [(zcd (zao 64 a) (zao 64 b)).1]) | exact zce (by show _ = (zcw (zao 64 a) (zao 64 b) != 0); rw [(zcd (zao 64 a) (zao 64 b)).2.1]) | exact zce (by show _ = decide (0 < zcw (zao 64 a) (zao 64 b)); rw [(zcd (zao 64 a) (zao 64 b)).2.2.1]) | exact zce (by show _ = decide (0 ≤ zcw (zao 64 a) (zao 64 b)); rw [(zcd (zao 64 a) (zao 64 b)).2.2.2.1]) | exact zce (by show _ = decide (zcw (zao 64 a) (zao 64 b) < 0); rw [(zcd (zao 64 a) (zao 64 b)).2.2.2.2.1]) | exact zce (by show _ = decide (zcw (zao 64 a) (zao 64 b) ≤ 0); rw [(zcd (zao 64 a) (zao 64 b)).2.2.2.2.2]) | exact zce (by show _ = decide (0 < zcw (wrap64 (zbj 64 (zao 64 a))) (wrap64 (zbj 64 (zao 64 b)))); rw [(zcd (wrap64 (zbj 64 (zao 64 a))) (wrap64 (zbj 64 (zao 64 b)))).2.2.1]) | exact zce (by show _ = decide (0 ≤ zcw (wrap64 (zbj 64 (zao 64 a))) (wrap64 (zbj 64 (zao 64 b)))); rw [(zcd (wrap64 (zbj 64 (zao 64 a))) (wrap64 (zbj 64 (zao 64 b)))).2.2.2.1]) | exact zce (by show _ = decide (zcw (wrap64 (zbj 64 (zao 64 a))) (wrap64 (zbj 64 (zao 64 b))) < 0); rw [(zcd (wrap64 (zbj 64 (zao 64 a))) (wrap64 (zbj 64 (zao 64 b)))).2.2.2.2.1]) | exact zce (by show _ = decide (zcw (wrap64 (zbj 64 (zao 64 a))) (wrap64 (zbj 64 (zao 64 b))) ≤ 0); rw [(zcd (wrap64 (zbj 64 (zao 64 a))) (wrap64 (zbj 64 (zao 64 b)))).2.2.2.2.2]),rfl⟩
theorem zho {op x : Int}(a b : Int)(hA : U64 a)(hB : U64 b)(w : World)(h : zdp op x = true) : Calls prog 59 #[.int .i8 op,.int .i8 x,.int .u64 a,.int .u64 b] w fun e w' => e = .returned (.tuple #[.int .u64 (doU op x a b),.int .i64 0]) ∧ w = w' := by
 obtain ⟨hx,h0,h1⟩ := zbE h
 rcases hx with rfl | rfl
 ·exact zrG ⟨h0,h1⟩ a b hA hB w
 ·exact zrH ⟨h0,h1⟩ a b hA hB w
theorem zdn {cc x : Int}(a b : Int)(hA : U64 a)(hB : U64 b)(w : World)(h : zaW cc x = true) : Calls prog 65 #[.int .i8 cc,.int .i8 x,.int .u64 a,.int .u64 b] w fun e w' => e = .returned (.tuple #[.bool (zaJ cc x a b),.int .i64 0]) ∧ w = w' := by
 obtain ⟨hx,h0,h1⟩ := za7 h
 rcases hx with rfl | rfl
 ·exact zmr ⟨h0,h1⟩ a b hA hB w
 ·exact zms ⟨h0,h1⟩ a b hA hB w
end
section
def za6 (x : ID) : ID :=
 if x.kind = 0 then ⟨0,x.op,x.width,0,x.byReg && x.op != 8,x.dst,if x.byReg && x.op != 8 then x.src else 0,0,if x.byReg && x.op != 8 then 0 else if x.op != 8 then x.imm else 0⟩
 else if x.kind = 1 then ⟨1,0,0,x.size,false,x.dst,x.src,x.off,0⟩
 else if x.kind = 2 then ⟨2,0,0,x.size,false,x.dst,x.src,x.off,0⟩
 else if x.kind = 3 then ⟨3,x.op,0,0,x.byReg,x.dst,if x.byReg then x.src else 0,x.off,if x.byReg then 0 else x.imm⟩
 else if x.kind = 4 then ⟨4,0,0,0,false,0,0,x.off,0⟩
 else if x.kind = 5 then ⟨5,0,0,0,false,0,0,0,x.imm⟩
 else kz x.kind
def zcZ (x : ID)(w : World)(e : Ending)(w' : World) : Prop := e = .returned (.agg (za6 x).cells.toArray) ∧ Below w.heap.size w w'
theorem zmt (op wd sz dst src off imm : Int)(w : World) : Calls prog 93 #[.agg #[.int .i8 0,.int .i8 op,.int .i8 wd,.int .i8 sz,.bool true,.int .i8 dst,.int .i8 src,.int .i64 off,.int .i64 imm]] w (zcZ ⟨0,op,wd,sz,true,dst,src,off,imm⟩ w) := by
 have h8 : (op == 8) = true ∧ (op != 8) = false ∨ (op == 8) = false ∧ (op != 8) = true := by cases h : (op == 8) <;> simp [bne,h]
 rcases h8 with ⟨h8,h8'⟩ | ⟨h8,h8'⟩
 all_goals
  go_enter func93,ntmps93;go_wp2;refine bodyPost_ret (v := .agg (za6 ⟨0,op,wd,sz,true,dst,src,off,imm⟩).cells.toArray) (by simp [results,results93,go_sem,za6,kz,ID.cells, *]) rfl ⟨rfl,?_⟩;exact (((Below.refl _ _).alloc (ztn _) _).alloc (zaF _ (ztn _)) _).alloc (zaF _ (zaF _ (ztn _))) _
theorem zmu (op wd sz dst src off imm : Int)(w : World) : Calls prog 93 #[.agg #[.int .i8 0,.int .i8 op,.int .i8 wd,.int .i8 sz,.bool false,.int .i8 dst,.int .i8 src,.int .i64 off,.int .i64 imm]] w (zcZ ⟨0,op,wd,sz,false,dst,src,off,imm⟩ w) := by
 have h8 : (op == 8) = true ∧ (op != 8) = false ∨ (op == 8) = false ∧ (op != 8) = true := by cases h : (op == 8) <;> simp [bne,h]
 rcases h8 with ⟨h8,h8'⟩ | ⟨h8,h8'⟩
 all_goals
  go_enter func93,ntmps93;go_wp2;refine bodyPost_ret (v := .agg (za6 ⟨0,op,wd,sz,false,dst,src,off,imm⟩).cells.toArray) (by simp [results,results93,go_sem,za6,kz,ID.cells, *]) rfl ⟨rfl,?_⟩;exact (((Below.refl _ _).alloc (ztn _) _).alloc (zaF _ (ztn _)) _).alloc (zaF _ (zaF _ (ztn _))) _
theorem zoA (op wd sz dst src off imm : Int)(br : Bool)(w : World) : Calls prog 93 #[.agg #[.int .i8 1,.int .i8 op,.int .i8 wd,.int .i8 sz,.bool br,.int .i8 dst,.int .i8 src,.int .i64 off,.int .i64 imm]] w (zcZ ⟨1,op,wd,sz,br,dst,src,off,imm⟩ w) := by
 go_enter func93,ntmps93;go_wp2;refine bodyPost_ret (v := .agg (za6 ⟨1,op,wd,sz,br,dst,src,off,imm⟩).cells.toArray) (by simp [results,results93,go_sem,za6,kz,ID.cells, *]) rfl ⟨rfl,?_⟩;exact (((Below.refl _ _).alloc (ztn _) _).alloc (zaF _ (ztn _)) _).alloc (zaF _ (zaF _ (ztn _))) _
theorem zoB (op wd sz dst src off imm : Int)(br : Bool)(w : World) : Calls prog 93 #[.agg #[.int .i8 2,.int .i8 op,.int .i8 wd,.int .i8 sz,.bool br,.int .i8 dst,.int .i8 src,.int .i64 off,.int .i64 imm]] w (zcZ ⟨2,op,wd,sz,br,dst,src,off,imm⟩ w) := by
 go_enter func93,ntmps93;go_wp2;refine bodyPost_ret (v := .agg (za6 ⟨2,op,wd,sz,br,dst,src,off,imm⟩).cells.toArray) (by simp [results,results93,go_sem,za6,kz,ID.cells, *]) rfl ⟨rfl,?_⟩;exact (((Below.refl _ _).alloc (ztn _) _).alloc (zaF _ (ztn _)) _).alloc (zaF _ (zaF _ (ztn _))) _
theorem zmv (op wd sz dst src off imm : Int)(w : World) : Calls prog 93 #[.agg #[.int .i8 3,.int .i8 op,.int .i8 wd,.int .i8 sz,.bool true,.int .i8 dst,.int .i8 src,.int .i64 off,.int .i64 imm]] w (zcZ ⟨3,op,wd,sz,true,dst,src,off,imm⟩ w) := by
 go_enter func93,ntmps93;go_wp2;refine bodyPost_ret (v := .agg (za6 ⟨3,op,wd,sz,true,dst,src,off,imm⟩).cells.toArray) (by simp [results,results93,go_sem,za6,kz,ID.cells, *]) rfl ⟨rfl,?_⟩;exact (((Below.refl _ _).alloc (ztn _) _).alloc (zaF _ (ztn _)) _).alloc (zaF _ (zaF _ (ztn _))) _
theorem zmw (op wd sz dst src off imm : Int)(w : World) : Calls prog 93 #[.agg #[.int .i8 3,.int .i8 op,.int .i8 wd,.int .i8 sz,.bool false,.int .i8 dst,.int .i8 src,.int .i64 off,.int .i64 imm]] w (zcZ ⟨3,op,wd,sz,false,dst,src,off,imm⟩ w) := by
 go_enter func93,ntmps93;go_wp2;refine bodyPost_ret (v := .agg (za6 ⟨3,op,wd,sz,false,dst,src,off,imm⟩).cells.toArray) (by simp [results,results93,go_sem,za6,kz,ID.cells, *]) rfl ⟨rfl,?_⟩;exact (((Below.refl _ _).alloc (ztn _) _).alloc (zaF _ (ztn _)) _).alloc (zaF _ (zaF _ (ztn _))) _
theorem zoC (op wd sz dst src off imm : Int)(br : Bool)(w : World) : Calls prog 93 #[.agg #[.int .i8 4,.int .i8 op,.int .i8 wd,.int .i8 sz,.bool br,.int .i8 dst,.int .i8 src,.int .i64 off,.int .i64 imm]] w (zcZ ⟨4,op,wd,sz,br,dst,src,off,imm⟩ w) := by
 go_enter func93,ntmps93;go_wp2;refine bodyPost_ret (v := .agg (za6 ⟨4,op,wd,sz,br,dst,src,off,imm⟩).cells.toArray) (by simp [results,results93,go_sem,za6,kz,ID.cells, *]) rfl ⟨rfl,?_⟩;exact (((Below.refl _ _).alloc (ztn _) _).alloc (zaF _ (ztn _)) _).alloc (zaF _ (zaF _ (ztn _))) _
theorem zoD (op wd sz dst src off imm : Int)(br : Bool)(w : World) : Calls prog 93 #[.agg #[.int .i8 5,.int .i8 op,.int .i8 wd,.int .i8 sz,.bool br,.int .i8 dst,.int .i8 src,.int .i64 off,.int .i64 imm]] w (zcZ ⟨5,op,wd,sz,br,dst,src,off,imm⟩ w) := by
 go_enter func93,ntmps93;go_wp2;refine bodyPost_ret (v := .agg (za6 ⟨5,op,wd,sz,br,dst,src,off,imm⟩).cells.toArray) (by simp [results,results93,go_sem,za6,kz,ID.cells, *]) rfl ⟨rfl,?_⟩;exact (((Below.refl _ _).alloc (ztn _) _).alloc (zaF _ (ztn _)) _).alloc (zaF _ (zaF _ (ztn _))) _
theorem zoE (k op wd sz dst src off imm : Int)(br : Bool)(w : World)(h0 : ¬ k = 0)(h1 : ¬ k = 1)(h2 : ¬ k = 2)(h3 : ¬ k = 3)(h4 : ¬ k = 4)(h5 : ¬ k = 5) : Calls prog 93 #[.agg #[.int .i8 k,.int .i8 op,.int .i8 wd,.int .i8 sz,.bool br,.int .i8 dst,.int .i8 src,.int .i64 off,.int .i64 imm]] w (zcZ ⟨k,op,wd,sz,br,dst,src,off,imm⟩ w) := by
 go_enter func93,ntmps93;go_wp2;refine bodyPost_ret (v := .agg (za6 ⟨k,op,wd,sz,br,dst,src,off,imm⟩).cells.toArray) (by simp [results,results93,go_sem,za6,kz,ID.cells, *]) rfl ⟨rfl,?_⟩;exact (((Below.refl _ _).alloc (ztn _) _).alloc (zaF _ (ztn _)) _).alloc (zaF _ (zaF _ (ztn _))) _
theorem zkN (x : ID)(w : World) : Calls prog 93 #[.agg x.cells.toArray] w (zcZ x w) := by
 obtain ⟨k,op,wd,sz,br,dst,src,off,imm⟩ := x
 rcases Decidable.em (k = 0) with rfl | h0
 ·cases br
  ·exact zmu op wd sz dst src off imm w
  ·exact zmt op wd sz dst src off imm w
 rcases Decidable.em (k = 1) with rfl | h1
 ·exact zoA op wd sz dst src off imm br w
 rcases Decidable.em (k = 2) with rfl | h2
 ·exact zoB op wd sz dst src off imm br w
 rcases Decidable.em (k = 3) with rfl | h3
 ·cases br
  ·exact zmw op wd sz dst src off imm w
  ·exact zmv op wd sz dst src off imm w
 rcases Decidable.em (k = 4) with rfl | h4
 ·exact zoC op wd sz dst src off imm br w
 rcases Decidable.em (k = 5) with rfl | h5
 ·exact zoD op wd sz dst src off imm br w
 exact zoE k op wd sz dst src off imm br w h0 h1 h2 h3 h4 h5
theorem zkO (n : Int)(w : World) : Calls prog 94 #[.int .i8 n] w fun e w' => e = .returned (.bool (szB n)) ∧ w = w' := by
 go_enter func94,ntmps94;go_wp2
 all_goals
  go_ret;exact ⟨zic (by unfold szB; simp_all),rfl⟩
end
end Go.Proofs.YtepagfkkjlbipaaGreat
