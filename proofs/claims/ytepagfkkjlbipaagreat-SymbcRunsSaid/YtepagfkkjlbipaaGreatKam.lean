/-
  Parts of the proof of SymbcRuns. Conditions: those written in each statement.
-/
import Derived.Test.YtepagfkkjlbipaaGreatKaj
import Derived.Shelf.Abstract
set_option linter.unusedVariables false
set_option linter.unusedSimpArgs false
set_option maxHeartbeats 64000000
set_option maxRecDepth 100000
namespace Go.Proofs.YtepagfkkjlbipaaGreat
open Go.RowKit
open Tryz
section
section
variable {base g : Nat}{F : Nat → Prop}{p : PS}
def zte (base g : Nat)(F : Nat → Prop)(w : World)(r : PS × Int × Int × Int)(e : Ending)(w' : World) : Prop :=
 e = .returned (.tuple #[.int .i64 r.2.1,.int .i64 r.2.2.1,.int .i64 r.2.2.2]) ∧ ∃ F',PG base g F w F' r.1 w'
theorem zjX (x a b : Int)(hx : x = 32 ∨ x = 64)(w : World)(h : zam w base F g p)(hbase : base ≤ w.heap.size) :
  Calls prog 112 #[.agg #[.pointer (some ⟨g,0,none⟩)],.int .i8 x,.int .i64 a,.int .i64 b] w (zte base g F w (zaj p x a b)) := by
 obtain ⟨r,hr⟩ : ∃ r,zah p x a = r := ⟨_,rfl⟩;obtain ⟨s,hs⟩ : ∃ s,zah r.1 x b = s := ⟨_,rfl⟩;obtain ⟨q,hq⟩ : ∃ q,zaj p x a b = q := ⟨_,rfl⟩;have HQ : Hid (q = if r.2.2 = 0 then (s.1,r.2.1,s.2.1,s.2.2) else (r.1,r.2.1,0,r.2.2)) := Hd (by rw [← hq]; unfold zaj; rw [hr]; dsimp only; rw [hs])
 rw [hq];have hb0 : Below w.heap.size w (w.alloc (.cells #[.pointer (some ⟨g,0,none⟩)] 125)) := (Below.refl _ w).alloc (ztn _) _;have HP := Hd (PG.of_below h hb0)
 have HZ := Hd (Blk.new w 125 #[.pointer (some ⟨g,0,none⟩)])
 have HNF := Hd (fun q => by have := (h.fb _ q).2; omega : ¬ F w.heap.size)
 have hb1 := zto hbase HP.out.size;have HO := Hd (fun W F1 (hW : zam W base F1 g p) hb => by have := zf1 x a hx W hW hb; rw [hr] at this; exact this : ∀ (W : World) (F1 : Nat → Prop) (hW : zam W base F1 g p) (hb : base ≤ W.heap.size),Calls prog 157 #[.agg #[.pointer (some ⟨g,0,none⟩)],.int .i8 x,.int .i64 a] W (zbT base g F1 W r))
 have HO2 := Hd (fun W F1 (hW : zam W base F1 g r.1) hb => by have := zf1 x b hx W hW hb; rw [hs] at this; exact this : ∀ (W : World) (F1 : Nat → Prop) (hW : zam W base F1 g r.1) (hb : base ≤ W.heap.size),Calls prog 157 #[.agg #[.pointer (some ⟨g,0,none⟩)],.int .i8 x,.int .i64 b] W (zbT base g F1 W s))
 clear h hb0 hr hs hq;obtain ⟨p1,n1,e1⟩ := r;obtain ⟨p2,n2,e2⟩ := s;dsimp only at HQ HO HO2;go_enter func112,ntmps112;go_wp2_with fail
 refine (HO.out _ _ HP.out.pool hb1).mono ?_;rintro e w1 ⟨rfl,F1,hp1⟩;have HP1 := Hd (HP.out.trans hp1)
 have HZ1 := Hd (hp1.blk HZ.out HNF.out)
 have hb2 := zto hbase HP1.out.size;have c0 := HZ1.out.1.cell 0;clear hp1 HP HZ;simp at c0
 cases he : (e1 == 0)
 ·go_wp2
  exact bodyPost_ret (v := .tuple #[.int .i64 n1,.int .i64 0,.int .i64 e1]) (by simp [results,results112,go_sem]) rfl ⟨by rw [HQ.out,if_neg (by simpa using he)],F1,by rw [HQ.out,if_neg (by simpa using he)]; exact HP1.out⟩
 ·go_wp2_with fail
  refine (HO2.out _ _ HP1.out.pool hb2).mono ?_;rintro e w2 ⟨rfl,F2,hp2⟩;have HP2 := Hd (HP1.out.trans hp2)
  clear hp2;go_wp2;exact bodyPost_ret (v := .tuple #[.int .i64 n1,.int .i64 n2,.int .i64 e2]) (by simp [results,results112,go_sem]) rfl ⟨by rw [HQ.out,if_pos (by simpa using he)],F2,by rw [HQ.out,if_pos (by simpa using he)]; exact HP2.out⟩
theorem zbz (f : Nat)(p : PS)(x a : Int) : zbw (f + 1) p x a = if x = 64 then some (p,a,0) else if (atP p.T a).kind = 0 then some (putR p (zaf (zao x (atP p.T a).n))) else if zbY p.T a x = true then some (p,a,0) else if (atP p.T a).kind = 3 then zbw f p x (atP p.T a).a else some (putR p ⟨3,0,x,0,a,0,0⟩) := rfl
def zgd (x a : Int) : TD := ⟨3,0,x,0,a,0,0⟩
theorem zfz {x a : Int}(h : I64 a)(hx : I8 x) : (zgd x a).wf := by unfold TD.wf I8 U64 I64 zgd; unfold I8 at hx; unfold I64 at h; dsimp only; exact ⟨by omega,by omega,hx,by omega,h,by omega,by omega⟩
theorem zgS (a x : Int)(w : World) : (Instr.build 147 #[(0,.int .i8 3),(2,.int .i8 x),(4,.int .i64 a)]).run prog w = .ok (zaw (zgd x a)) w := run_build w 147 _ _ (by kernel_rfl)
theorem zjY (x : Int)(hx : x = 8 ∨ x = 16 ∨ x = 32 ∨ x = 64) : ∀ (f : Nat) (a : Int) (ha : I64 a) (F : Nat → Prop) (p : PS) (r : RS) (hz : zbw f p x a = some r) (w : World) (h : zam w base F g p) (hbase : base ≤ w.heap.size),
  Calls prog 118 #[.agg #[.pointer (some ⟨g,0,none⟩)],.int .i8 x,.int .i64 a] w (zbT base g F w r) := by
 intro f
 induction f with
 | zero => intro a ha F p r hz; cases hz
 | succ f ih =>
 intro a ha F p r hz w h hbase;have HIH := Hd ih
 obtain ⟨t,ht⟩ : ∃ t,atP p.T a = t := ⟨_,rfl⟩;have htw : t.wf := by rw [← ht]; exact zba h.rng a
 obtain ⟨nb,hnb⟩ : ∃ nb,zbY p.T a x = nb := ⟨_,rfl⟩;have HE := Hd (show (if x = 64 then some (p,a,0) else if t.kind = 0 then some (putR p (zaf (zao x t.n))) else if nb = true then some (p,a,0) else if t.kind = 3 then zbw f p x t.a else some (putR p ⟨3,0,x,0,a,0,0⟩)) = some r by rw [← hz,zbz,ht,hnb])
 have HT := Hd ht
 have HNB := Hd hnb
 have HU := Hd (zau (x := x) htw.2.2.2.1)
 have HTA := Hd htw.2.2.2.2.1
 have HX8 := Hd hx
 have HZW := Hd (zfz ha (by unfold I8; omega : I8 x))
 have qz := fun (w : World) => zgS a x w
 have hb0 : Below w.heap.size w (w.alloc (.cells #[.pointer (some ⟨g,0,none⟩)] 125)) := (Below.refl _ w).alloc (ztn _) _;have HP := Hd (PG.of_below h hb0)
 have HZ := Hd (Blk.new w 125 #[.pointer (some ⟨g,0,none⟩)])
 clear h hb0 ht htw hz hnb ih ha hx;go_enter func118,ntmps118;go_wp2_with fail
 refine (zgK a _ HP.out.pool).mono ?_;rintro e w1 ⟨rfl,hb⟩;have HP1 := Hd (HP.out.step hb)
 have HZ1 := Hd (HZ.out.below hb HZ.out.lt)
 clear hb HP HZ;rw [HT.out];go_upto_region 2 with (first
  | (refine zag rfl 147 (.tmp 8) (.tmp 11) rfl _ t.cells (zaw t) (by rfl) (by rfl) rfl zcL rfl (TD.one _) ?_
     intro w5 G5 L5 Z5;have HX := Hd G5
     have HP2 := Hd (HP1.out.step L5)
     have HZ2 := Hd (HZ1.out.below L5 HZ1.out.lt)
     clear G5 L5 Z5)
  | fail)
 obtain ⟨b8,hb8⟩ : ∃ b,w1.heap.size = b := ⟨_,rfl⟩;rw [hb8] at HX ⊢;have c0 := HZ2.out.cell 0;have b0 := HX.out.cell 0;have b3 := HX.out.cell 3;simp [TD.cells] at b0 b3 c0;have hb5 : base ≤ w5.heap.size := zto hbase HP2.out.size
 cases h64 : (x == 64)
 ·have hx64 : x ≠ 64 := by simpa using h64
  cases hk0 : (t.kind == 0)
  ·have hkn0 : t.kind ≠ 0 := by simpa using hk0
   go_wp2_with fail
   refine (zkI a x HX8.out _ HP2.out.pool).mono ?_;rintro e w6 ⟨rfl,hb⟩;have HP3 := Hd (HP2.out.step hb)
   have HZ3 := Hd (HZ2.out.below hb HZ2.out.lt)
   have HX3 := Hd (HX.out.below hb HX.out.lt)
   clear hb b0 b3 c0;rw [HNB.out];have c0 := HZ3.out.cell 0;have b0 := HX3.out.cell 0;have b4 := HX3.out.cell 4;simp [TD.cells] at b0 b4 c0;have hb6 : base ≤ w6.heap.size := zto hbase HP3.out.size
   cases nb
   ·cases hk3 : (t.kind == 3)
    ·have hkn3 : t.kind ≠ 3 := by simpa using hk3
     go_wp2_with fail
     refine (zkH _ HZW.out _ HP3.out.pool hb6).mono ?_;rintro e w7 ⟨rfl,hr⟩;have HR := Hd hr
     clear hr;go_wp2;go_ret2;have he := HE.out;rw [if_neg hx64,if_neg hkn0,if_neg (by simp),if_neg hkn3] at he;injection he with he
     rw [← he];exact zbT.from HP3.out ⟨rfl,HR.out⟩
    ·have hk3' : t.kind = 3 := by simpa using hk3
     have hrec : zbw f p x t.a = some r := by
      have he := HE.out;rw [if_neg hx64,if_neg hkn0,if_neg (by simp),if_pos hk3'] at he;exact he
     have HREC := Hd hrec
     clear hrec;go_wp2_with fail
     refine (HIH.out t.a HTA.out _ p r HREC.out _ HP3.out.pool hb6).mono ?_;rintro e w7 ⟨rfl,hr⟩;have HR := Hd hr
     clear hr;go_wp2;go_ret2;exact zbT.from HP3.out ⟨rfl,HR.out⟩
   ·go_wp2
    go_ret2;have he := HE.out;rw [if_neg hx64,if_neg hkn0,if_pos trivial] at he;injection he with he
    rw [← he];exact zbT.same HP3.out
  ·have hk0' : t.kind = 0 := by simpa using hk0
   go_upto_region 5 with fail
   go_region_with (first
    | (go_at_call 97; refine (zbD _ _ _).mono ?_; rintro e w' ⟨rfl,rfl⟩)
    | (go_at_call 39; refine (zb1 _ HU.out _ (HP2.out.pool.drew) hb5).mono ?_; rintro e w' ⟨rfl,hr⟩))
   all_goals
    have HR := Hd hr
    clear hr;go_wp2;go_ret2;have he := HE.out;rw [if_neg hx64,if_pos hk0'] at he;injection he with he
    rw [← he];exact zbT.from (HP2.out.step ((Below.refl _ _).drew)) ⟨rfl,HR.out⟩
 ·go_wp2
  go_ret2;have he := HE.out;rw [if_pos (by simpa using h64)] at he;injection he with he
  rw [← he];exact zbT.same HP2.out
end
end
section
def za1 (k : Nat) : Prop := ∀ args w,(callFunc k args).run prog w = .ok (.enter k args) w
theorem zbL (d : Value)(w : World) : Calls prog 121 #[.bool false,d] w fun e w' => e = .returned (.tuple #[.int .i64 0,.bool false,.int .i64 0]) ∧ w = w' := by
 go_enter func121,ntmps121;go_wp2;exact bodyPost_ret (v := .tuple #[.int .i64 0,.bool false,.int .i64 0]) (by simp [results,results121,go_sem]) rfl ⟨rfl,rfl⟩
theorem zcj (k : Nat)(caps : Array Value)(w : World)(R : Int → Int → World → Prop)(he : za1 k)(h : Calls prog k caps w fun e w' => ∃ n m,e = .returned (.tuple #[.int .i64 n,.int .i64 m]) ∧ R n m w') :
  Calls prog 121 #[.bool true,.func (.func k) #[] caps] w fun e w' => ∃ n m,e = .returned (.tuple #[.int .i64 n,.bool true,.int .i64 m]) ∧ R n m w' := by
 have he' : ∀ args w,(callFunc k args).run prog w = .ok (.enter k args) w := he;have H := Hd h
 clear h he;go_enter func121,ntmps121;go_wp2_with fail
 refine H.out.mono ?_;rintro e w1 ⟨n,m,rfl,hr⟩;have HR := Hd hr
 clear hr;go_wp2;exact bodyPost_ret (v := .tuple #[.int .i64 n,.bool true,.int .i64 m]) (by simp [results,results121,go_sem]) rfl ⟨n,m,rfl,HR.out⟩
def zfn (W0 : World)(v : Value) : Prop := ∃ k caps,v = .func (.func k) #[] caps ∧ za1 k ∧ ∀ W,Below W0.heap.size W0 W → Calls prog k caps W fun e W' => e = .returned (.tuple #[.int .i64 0,.bool false,.int .i64 0]) ∧ Below W.heap.size W W'
def zpM (W0 : World)(R : Int → Int → World → Prop)(v : Value) : Prop := ∃ k caps,v = .func (.func k) #[] caps ∧ za1 k ∧ ∀ W,Below W0.heap.size W0 W → Calls prog k caps W fun e W' => ∃ n m,e = .returned (.tuple #[.int .i64 n,.bool true,.int .i64 m]) ∧ R n m W'
def zpN (W0 : World)(R : Int → Int → World → Prop)(v : Value) : Prop := ∃ k caps,v = .func (.func k) #[] caps ∧ za1 k ∧ ∀ W,Below W0.heap.size W0 W → Calls prog k caps W fun e W' => ∃ n m,e = .returned (.tuple #[.int .i64 n,.int .i64 m]) ∧ R n m W'
theorem zmX (W0 : World)(A : Option Addr)(n c : Nat)(L : List Value)(p : Value)(j : Nat)(R : Int → Int → World → Prop)(hL : L.length = n)(hn : n < 1000)(hc : n ≤ c)(hr : zaU W0 W0.heap.size 1 A n L)(hj : j ≤ n)
  (hno : ∀ i v,i < j → L[i]? = some v → zfn W0 v) (hyes : ∀ v,L[j]? = some v → zpM W0 R v) (hput : j = n → zpN W0 R p) :
  Calls prog 119 #[.slice A n c,p] W0 fun e w' => ∃ n m,e = .returned (.tuple #[.int .i64 n,.int .i64 m]) ∧ R n m w' := by
 have HL := Hd hL
 have HR := Hd hr
 have HNO := Hd hno
 have HY := Hd hyes
 have HPUT := Hd hput
 clear hL hr hno hyes hput;go_enter func119,ntmps119;go_wp2;go_loopw [13] (fun iv wr => ∃ k : Nat,k ≤ j ∧ iv = .int .i64 (k : Int) ∧ Below W0.heap.size W0 wr) (fun iv _ => n - (intOf iv).toNat)
 case atStart => exact ⟨0,by omega,rfl,Below.refl _ _⟩
 case round =>
  obtain ⟨k,hk,rfl,hb⟩ := hrel;have HB := Hd hb
  clear hb
  by_cases hlt : k < n
  ·obtain ⟨ad,u,rfl,_,hu,hcl⟩ := (HR.out.below HB.out).at_ hlt
   have hkc : k < c := by omega
   by_cases hkj : k < j
   ·obtain ⟨f,caps,rfl,hf,hl⟩ := HNO.out k u hkj hu
    have he' : ∀ args w,(callFunc f args).run prog w = .ok (.enter f args) w := hf;have HLAW := Hd hl
    clear hl hf hu;go_wp2_with fail
    refine (HLAW.out _ HB.out).mono ?_;rintro e w1 ⟨rfl,hb⟩;have HB1 := Hd (HB.out.trans (hb.mono HB.out.size))
    clear hb HB;go_wp2;go_roundw
    case measure => simp [intOf]; omega
    case rel => exact ⟨k + 1,by omega,by go_num,HB1.out⟩
   ·obtain rfl : k = j := by omega
    obtain ⟨f,caps,rfl,hf,hl⟩ := HY.out u hu;have he' : ∀ args w,(callFunc f args).run prog w = .ok (.enter f args) w := hf;have HLAW := Hd hl
    clear hl hf hu;go_wp2_with fail
    refine (HLAW.out _ HB.out).mono ?_;rintro e w1 ⟨a,b,rfl,hr⟩;have HRR := Hd hr
    clear hr HB;go_wp2;go_ret2;exact ⟨a,b,rfl,HRR.out⟩
  ·obtain rfl : k = n := by omega
   obtain rfl : j = k := by omega
   obtain ⟨f,caps,rfl,hf,hl⟩ := HPUT.out rfl;have he' : ∀ args w,(callFunc f args).run prog w = .ok (.enter f args) w := hf;have HLAW := Hd hl
   clear hl hf;go_wp2_with fail
   refine (HLAW.out _ HB.out).mono ?_;rintro e w1 ⟨a,b,rfl,hr⟩;have HRR := Hd hr
   clear hr HB;go_wp2;go_ret2;exact ⟨a,b,rfl,HRR.out⟩
end
section
def zbA (r : RS)(k : PS → Int → Option RS) : Option RS := if r.2.2 = 0 then k r.1 r.2.1 else some (r.1,0,r.2.2)
def zaK (op : Int) : Bool := op == 0 || (op == 2 || (op == 4 || (op == 5 || op == 10)))
def zai (op : Int) : Bool := op == 6 || (op == 7 || op == 12)
def zaB (op x d : Int) : Bool :=
 (d == 0 && (op == 0 || (op == 4 || (op == 10 || op == 9)))) || ((zai op && bits .and .u64 d (x - 1) == 0) || ((op == 2 && d == 1) || (op == 5 && d == zao x 18446744073709551615)))
def zb5 (T : List TD)(s : TD)(op x : Int)(rt : Bool) : Bool := op == 0 && (rt && ((atP T s.b).kind == 0 && (s.kind == 2 && (s.op == 0 && s.w == x))))
def ziu (op d : Int) : Bool := d == 0 && (op == 2 || (op == 5 || op == 3))
def opL (rec : PS → Int → Int → Int → Option RS)(f : Nat)(p : PS)(op x a b : Int) : Option RS :=
 let s := atP p.T a
 let y := atP p.T b
 let lf := s.kind == 0
 let rt := y.kind == 0
 if (lf && rt) = true then some (putR p (zaf (doU op x s.n y.n)))
 else if op = 8 then zbA (putR p (zaf 0)) fun q z => rec q 1 z a
 else if op = 11 then zbw f p x b
 else if (op == 1 && rt) = true then zbA (putR p (zaf (zao x (IntKind.u64.wrap (-y.n))))) fun q z => rec q 0 a z
 else if (zaK op && (lf || (!rt && decide (b < a)))) = true then rec p op b a
 else if zb5 p.T s op x rt = true then zbA (putR p (zaf (zao x (IntKind.u64.wrap ((atP p.T s.b).n + y.n))))) fun q z => rec q 0 s.a z
 else if (rt && zaB op x y.n) = true then zbw f p x a
 else if (rt && ziu op y.n) = true then some (putR p (zaf 0))
 else if (a == b && (op == 1 || op == 10)) = true then some (putR p (zaf 0))
 else if (a == b && (op == 5 || op == 4)) = true then zbw f p x a
 else some (putR p ⟨2,op,x,0,a,b,0⟩)
def opF : Nat → PS → Int → Int → Int → Int → Option RS
 | 0,_,_,_,_,_ => none
 | f + 1,p,op,x,a,b =>
  if (zal p.T a && zal p.T b) = false then some (p,0,2)
  else if zdp op x = false then some (p,0,2)
  else
   let r := zaj p x a b
   if r.2.2.2 = 0 then opL (fun q o u v => opF f q o x u v) f r.1 op x r.2.1 r.2.2.1 else some (r.1,0,r.2.2.2)
def RR (base g : Nat)(F : Nat → Prop)(W : World)(r : RS)(n m : Int)(W' : World) : Prop := n = r.2.1 ∧ m = r.2.2 ∧ ∃ F',PG base g F W F' r.1 W'
section
variable {base g : Nat}{F F1 : Nat → Prop}{W W' W2 : World}{p : PS}{r : RS}{e : Ending}
theorem RR.of (h : zbT base g F W r e W') : ∃ n m,e = .returned (.tuple #[.int .i64 n,.int .i64 m]) ∧ RR base g F W r n m W' := ⟨_,_,h.1,rfl,rfl,h.2⟩
theorem RR.ret {n m : Int}(h : RR base g F W r n m W') : zbT base g F W r (.returned (.tuple #[.int .i64 n,.int .i64 m])) W' := by
 obtain ⟨rfl,rfl,h⟩ := h;exact ⟨rfl,h⟩
theorem RR.from {n m : Int}(h : PG base g F W F1 p W')(k : RR base g F1 W' r n m W2) : RR base g F W r n m W2 := by
 obtain ⟨h1,h2,F',h3⟩ := k;exact ⟨h1,h2,F',h.trans h3⟩
end
abbrev ptr (b : Nat) : Value := .pointer (some ⟨b,0,none⟩)
structure OpE (g : Nat)(op x a b c d : Int)(lf rt tn sh : Bool)(b5 b6 b7 b8 b9 b15 b17 b18 b19 b20 b21 b22 b23 b24 : Nat)(F : Nat → Prop)(W : World) : Prop where
 e5 : Blk W b5 50 #[.pointer (some ⟨g,0,none⟩)] ∧ ¬ F b5
 e6 : Blk W b6 30 #[.int .i8 op] ∧ ¬ F b6
 e7 : Blk W b7 30 #[.int .i8 x] ∧ ¬ F b7
 e8 : Blk W b8 3 #[.int .i64 a] ∧ ¬ F b8
 e9 : Blk W b9 3 #[.int .i64 b] ∧ ¬ F b9
 e15 : Blk W b15 125 #[.pointer (some ⟨g,0,none⟩)] ∧ ¬ F b15
 e17 : Blk W b17 31 #[.int .u64 c] ∧ ¬ F b17
 e18 : Blk W b18 4 #[.bool lf] ∧ ¬ F b18
 e19 : Blk W b19 31 #[.int .u64 d] ∧ ¬ F b19
 e20 : Blk W b20 4 #[.bool rt] ∧ ¬ F b20
 e21 : Blk W b21 177 #[.func (.func 114) #[] #[.pointer (some ⟨b5,0,none⟩)]] ∧ ¬ F b21
 e22 : Blk W b22 179 #[.func (.func 116) #[] #[.pointer (some ⟨b15,0,none⟩),.pointer (some ⟨b7,0,none⟩)]] ∧ ¬ F b22
 e23 : Blk W b23 4 #[.bool tn] ∧ ¬ F b23
 e24 : Blk W b24 4 #[.bool sh] ∧ ¬ F b24
section
variable {base g : Nat}{op x a b c d : Int}{lf rt tn sh : Bool}{b5 b6 b7 b8 b9 b15 b17 b18 b19 b20 b21 b22 b23 b24 : Nat}{F F1 : Nat → Prop}{W W' : World}{p : PS}
theorem OpE.pg (h : OpE g op x a b c d lf rt tn sh b5 b6 b7 b8 b9 b15 b17 b18 b19 b20 b21 b22 b23 b24 F W)(k : PG base g F W F1 p W') : OpE g op x a b c d lf rt tn sh b5 b6 b7 b8 b9 b15 b17 b18 b19 b20 b21 b22 b23 b24 F1 W' :=
 ⟨k.blk h.e5.1 h.e5.2,k.blk h.e6.1 h.e6.2,k.blk h.e7.1 h.e7.2,k.blk h.e8.1 h.e8.2,k.blk h.e9.1 h.e9.2,k.blk h.e15.1 h.e15.2,k.blk h.e17.1 h.e17.2,k.blk h.e18.1 h.e18.2,k.blk h.e19.1 h.e19.2,k.blk h.e20.1 h.e20.2,k.blk h.e21.1 h.e21.2,k.blk h.e22.1 h.e22.2,k.blk h.e23.1 h.e23.2,k.blk h.e24.1 h.e24.2⟩
theorem OpE.below (h : OpE g op x a b c d lf rt tn sh b5 b6 b7 b8 b9 b15 b17 b18 b19 b20 b21 b22 b23 b24 F W)(k : Below W.heap.size W W') : OpE g op x a b c d lf rt tn sh b5 b6 b7 b8 b9 b15 b17 b18 b19 b20 b21 b22 b23 b24 F W' :=
 ⟨⟨h.e5.1.below k h.e5.1.lt,h.e5.2⟩,⟨h.e6.1.below k h.e6.1.lt,h.e6.2⟩,⟨h.e7.1.below k h.e7.1.lt,h.e7.2⟩,⟨h.e8.1.below k h.e8.1.lt,h.e8.2⟩,⟨h.e9.1.below k h.e9.1.lt,h.e9.2⟩,⟨h.e15.1.below k h.e15.1.lt,h.e15.2⟩,⟨h.e17.1.below k h.e17.1.lt,h.e17.2⟩,⟨h.e18.1.below k h.e18.1.lt,h.e18.2⟩,⟨h.e19.1.below k h.e19.1.lt,h.e19.2⟩,⟨h.e20.1.below k h.e20.1.lt,h.e20.2⟩,⟨h.e21.1.below k h.e21.1.lt,h.e21.2⟩,⟨h.e22.1.below k h.e22.1.lt,h.e22.2⟩,⟨h.e23.1.below k h.e23.1.lt,h.e23.2⟩,⟨h.e24.1.below k h.e24.1.lt,h.e24.2⟩⟩
end
theorem zge : za1 115 := enters_of func115 (by kernel_rfl) rfl
theorem zgf : za1 117 := enters_of func117 (by kernel_rfl) rfl
theorem zmY : za1 123 := enters_of func123 (by kernel_rfl) rfl
theorem zmZ : za1 126 := enters_of func126 (by kernel_rfl) rfl
theorem zh9 : za1 128 := enters_of func128 (by kernel_rfl) rfl
theorem zm0 : za1 131 := enters_of func131 (by kernel_rfl) rfl
theorem zcU (n : Int)(b5 : Nat)(w : World) : Calls prog 114 #[.int .u64 n,.pointer (some ⟨b5,0,none⟩)] w fun e w' => e = .returned (.func (.func 115) #[] #[.pointer (some ⟨b5,0,none⟩),.pointer (some ⟨w.heap.size,0,none⟩)]) ∧ w' = w.alloc (.cells #[.int .u64 n] 31) := by
 go_enter func114,ntmps114;go_wp2;go_ret;exact ⟨rfl,rfl⟩
theorem zgT (n : Int)(b15 b7 : Nat)(w : World) : Calls prog 116 #[.int .i64 n,.pointer (some ⟨b15,0,none⟩),.pointer (some ⟨b7,0,none⟩)] w fun e w' => e = .returned (.func (.func 117) #[] #[.pointer (some ⟨b15,0,none⟩),.pointer (some ⟨b7,0,none⟩),.pointer (some ⟨w.heap.size,0,none⟩)]) ∧ w' = w.alloc (.cells #[.int .i64 n] 3) := by
 go_enter func116,ntmps116;go_wp2;go_ret;exact ⟨rfl,rfl⟩
section
variable {base g : Nat}{F : Nat → Prop}{p : PS}
theorem zei (n : Int)(hn : U64 n)(b5 bn : Nat)(w : World)(h : zam w base F g p)(hbase : base ≤ w.heap.size)(h5 : Blk w b5 50 #[.pointer (some ⟨g,0,none⟩)])(hb : Blk w bn 31 #[.int .u64 n]) :
  Calls prog 115 #[.pointer (some ⟨b5,0,none⟩),.pointer (some ⟨bn,0,none⟩)] w (zbT base g F w (putR p (zaf n))) := by
 have c5 := h5.cell 0;have cn := hb.cell 0;simp at c5 cn;have HP := Hd h
 have HN := Hd hn
 clear h hn h5 hb;go_enter func115,ntmps115;go_wp2_with fail
 refine (zb1 n HN.out _ HP.out hbase).mono ?_;rintro e w1 ⟨rfl,hr⟩;have HR := Hd hr
 clear hr;go_wp2;go_ret2;exact ⟨rfl,HR.out⟩
theorem ziS (x n : Int)(hx : x = 8 ∨ x = 16 ∨ x = 32 ∨ x = 64)(hn : I64 n)(f : Nat)(r : RS)(hz : zbw f p x n = some r)(b15 b7 bn : Nat)(w : World)(h : zam w base F g p)(hbase : base ≤ w.heap.size)(h15 : Blk w b15 125 #[.pointer (some ⟨g,0,none⟩)])(h7 : Blk w b7 30 #[.int .i8 x])(hb : Blk w bn 3 #[.int .i64 n]) :
  Calls prog 117 #[.pointer (some ⟨b15,0,none⟩),.pointer (some ⟨b7,0,none⟩),.pointer (some ⟨bn,0,none⟩)] w (zbT base g F w r) := by
 have c15 := h15.cell 0;have c7 := h7.cell 0;have cn := hb.cell 0;simp at c15 c7 cn;have HP := Hd h
 have HN := Hd hn
 have HX := Hd hx
 have HZ := Hd hz
 clear h hn h15 h7 hb hx hz;go_enter func117,ntmps117;go_wp2_with fail
 refine (zjY x HX.out f n HN.out _ p r HZ.out _ HP.out hbase).mono ?_;rintro e w1 ⟨rfl,hr⟩;have HR := Hd hr
 clear hr;go_wp2;go_ret2;exact ⟨rfl,HR.out⟩
end
end
section
theorem zaY {p : PS}(h : WfP p)(t : TD) : I64 (zcP p t).1 := by
 unfold I64;have hf := h.few
 rcases za8 p t with ⟨e,⟨_,q⟩ | ⟨ho,i,hi,_,q⟩ | ⟨_,_,_,q⟩⟩ | ⟨ho,_,_,_,e,q⟩
 ·rw [q]; dsimp only; omega
 ·rw [q]
  have := (ztt.1 hi).1;dsimp only;omega
 ·rw [q]; dsimp only; omega
 ·rw [q]; dsimp only; omega
theorem zhu {r : RS}{k : PS → Int → Option RS}{s : RS}(h : zbA r k = some s)(e : r.2.2 = 0) : k r.1 r.2.1 = some s := by unfold zbA at h; rw [if_pos e] at h; exact h
theorem zhv {r : RS}{k : PS → Int → Option RS}{s : RS}(h : zbA r k = some s)(e : r.2.2 ≠ 0) : s = (r.1,0,r.2.2) := by unfold zbA at h; rw [if_neg e] at h; injection h with h; exact h.symm
def OpC (base g f : Nat) : Prop := ∀ (op x a b : Int) (ha : I64 a) (hb : I64 b) (F : Nat → Prop) (p : PS) (r : RS) (hO : opF f p op x a b = some r) (W : World) (h : zam W base F g p) (hbase : base ≤ W.heap.size),
 Calls prog 74 #[.pointer (some ⟨g,0,none⟩),.int .i8 op,.int .i8 x,.int .i64 a,.int .i64 b] W (zbT base g F W r)
section
variable {base f g : Nat}{op x a b c d : Int}{lf rt tn sh : Bool}{b5 b6 b7 b8 b9 b15 b17 b18 b19 b20 b21 b22 b23 b24 : Nat}{F : Nat → Prop}{W : World}{p : PS}{r : RS}
theorem zrU (hE : OpE g op x a b c d lf rt tn sh b5 b6 b7 b8 b9 b15 b17 b18 b19 b20 b21 b22 b23 b24 F W)(hp : zam W base F g p)(hbase : base ≤ W.heap.size)(hIH : OpC base g f)(ha : I64 a)(hr : zbA (putR p (zaf 0)) (fun q z => opF f q 1 x z a) = some r) :
  Calls prog 123 #[.pointer (some ⟨b5,0,none⟩),.pointer (some ⟨b7,0,none⟩),.pointer (some ⟨b8,0,none⟩)] W (zbT base g F W r) := by
 have HR := Hd hr
 have HIH := Hd hIH
 have HB := Hd hbase
 have HZI := Hd (zaY hp.wf (zaf 0))
 have HU := Hd (show U64 0 by unfold U64; omega)
 have HE := Hd hE
 have HP := Hd hp
 have c5 := hE.e5.1.cell 0;simp at c5;clear hE hp hr hIH hbase;go_enter func123,ntmps123;go_wp2_with fail
 refine (zb1 _ HU.out _ HP.out HB.out).mono ?_;rintro e w1 ⟨rfl,F1,hp1⟩;have HP1 := Hd hp1
 clear hp1;have HE1 := Hd (HE.out.pg HP1.out)
 have hb1 := zto HB.out HP1.out.size;obtain ⟨q,hq⟩ : ∃ q,putR p (zaf 0) = q := ⟨_,rfl⟩;rw [show (zcP p (zaf 0)).1 = q.2.1 by rw [← hq]; rfl] at HZI;rw [hq] at HR HP1 ⊢;obtain ⟨p1,z,er⟩ := q;dsimp only at HZI HP1 ⊢;clear hq c5;have c5 := HE1.out.e5.1.cell 0;have c7 := HE1.out.e7.1.cell 0;have c8 := HE1.out.e8.1.cell 0;simp at c5 c7 c8
 cases her : (er == 0)
 ·have he := HR.out
  have he2 := zhv he (by simpa using her);subst he2;clear he;go_wp2;go_ret2;exact ⟨rfl,F1,HP1.out⟩
 ·have hrec := zhu HR.out (show er = 0 by simpa using her)
  dsimp only at hrec;have HREC := Hd hrec
  clear hrec;go_wp2_with fail
  refine (HIH.out 1 x z a HZI.out ha F1 p1 r HREC.out _ HP1.out.pool hb1).mono ?_;rintro e w2 ⟨rfl,hr2⟩;have HR2 := Hd hr2
  clear hr2;go_wp2;go_ret2;exact zbT.from HP1.out ⟨rfl,HR2.out⟩
theorem zrV (hE : OpE g op x a b c d lf rt tn sh b5 b6 b7 b8 b9 b15 b17 b18 b19 b20 b21 b22 b23 b24 F W)(hp : zam W base F g p)(hbase : base ≤ W.heap.size)(hIH : OpC base g f)(ha : I64 a)(hr : zbA (putR p (zaf (zao x (IntKind.u64.wrap (-d))))) (fun q z => opF f q 0 x a z) = some r) :
  Calls prog 126 #[.pointer (some ⟨b5,0,none⟩),.pointer (some ⟨b19,0,none⟩),.pointer (some ⟨b7,0,none⟩),.pointer (some ⟨b8,0,none⟩)] W (zbT base g F W r) := by
 have HR := Hd hr
 have HIH := Hd hIH
 have HB := Hd hbase
 have HZI := Hd (zaY hp.wf (zaf (zao x (IntKind.u64.wrap (-d)))))
 have HU := Hd (show U64 (zao x (IntKind.u64.wrap (-d))) by exact zau (by unfold U64; rw [IntKind.wrap_u64]; omega))
 have HE := Hd hE
 have HP := Hd hp
 have c5 := hE.e5.1.cell 0;have c19 := hE.e19.1.cell 0;have c7 := hE.e7.1.cell 0;simp at c5 c19 c7;clear hE hp hr hIH hbase;go_enter func126,ntmps126;have hbd : base ≤ W.drew.heap.size := HB.out;go_wp2;go_region_with (first
  | (go_at_call 97; refine (zbD _ _ _).mono ?_; rintro e w' ⟨rfl,rfl⟩)
  | (go_at_call 39; refine (zb1 _ HU.out _ HP.out.drew hbd).mono ?_; rintro e w1 ⟨rfl,hq1⟩))
 all_goals
  obtain ⟨F1,hp1⟩ := hq1;have HP1 := Hd ((PG.of_below HP.out ((Below.refl _ _).drew)).trans hp1)
  clear hp1;have HE1 := Hd (HE.out.pg HP1.out)
  have hb1 := zto HB.out HP1.out.size;obtain ⟨q,hq⟩ : ∃ q,putR p (zaf (zao x (IntKind.u64.wrap (-d)))) = q := ⟨_,rfl⟩;rw [show (zcP p (zaf (zao x (IntKind.u64.wrap (-d))))).1 = q.2.1 by rw [← hq]; rfl] at HZI;rw [hq] at HR HP1 ⊢;obtain ⟨p1,z,er⟩ := q;dsimp only at HZI HP1 ⊢;clear hq c5 c19 c7;have c5 := HE1.out.e5.1.cell 0;have c7 := HE1.out.e7.1.cell 0;have c8 := HE1.out.e8.1.cell 0;simp at c5 c7 c8
  cases her : (er == 0)
  ·have he := HR.out
   have he2 := zhv he (by simpa using her);subst he2;clear he;go_wp2;go_ret2;exact ⟨rfl,F1,HP1.out⟩
  ·have hrec := zhu HR.out (show er = 0 by simpa using her)
   dsimp only at hrec;have HREC := Hd hrec
   clear hrec;go_wp2_with fail
   refine (HIH.out 0 x a z ha HZI.out F1 p1 r HREC.out _ HP1.out.pool hb1).mono ?_;rintro e w2 ⟨rfl,hr2⟩;have HR2 := Hd hr2
   clear hr2;go_wp2;go_ret2;exact zbT.from HP1.out ⟨rfl,HR2.out⟩
theorem zqD (hE : OpE g op x a b c d lf rt tn sh b5 b6 b7 b8 b9 b15 b17 b18 b19 b20 b21 b22 b23 b24 F W)(hp : zam W base F g p)(hf : (op == 8) = false) :
  Calls prog 122 #[.pointer (some ⟨b6,0,none⟩),.pointer (some ⟨b5,0,none⟩),.pointer (some ⟨b7,0,none⟩),.pointer (some ⟨b8,0,none⟩)] W (fun e w' => e = .returned (.tuple #[.int .i64 0,.bool false,.int .i64 0]) ∧ Below W.heap.size W w') := by
 have c6 := hE.e6.1.cell 0;simp at c6;clear hE hp;go_enter func122,ntmps122;go_wp2_with fail
 refine (zbL _ _).mono ?_;rintro e w1 ⟨rfl,rfl⟩;go_wp2;exact bodyPost_ret (v := .tuple #[.int .i64 0,.bool false,.int .i64 0]) (by simp [results,results122,go_sem]) rfl ⟨rfl,Below.refl _ _⟩
theorem zoP (hE : OpE g op x a b c d lf rt tn sh b5 b6 b7 b8 b9 b15 b17 b18 b19 b20 b21 b22 b23 b24 F W)(hp : zam W base F g p)(hbase : base ≤ W.heap.size)(hIH : OpC base g f)(ha : I64 a)(hr : zbA (putR p (zaf 0)) (fun q z => opF f q 1 x z a) = some r)(hf : (op == 8) = true) :
  Calls prog 122 #[.pointer (some ⟨b6,0,none⟩),.pointer (some ⟨b5,0,none⟩),.pointer (some ⟨b7,0,none⟩),.pointer (some ⟨b8,0,none⟩)] W (fun e w' => ∃ n m,e = .returned (.tuple #[.int .i64 n,.bool true,.int .i64 m]) ∧ RR base g F W r n m w') := by
 have H := Hd (zrU hE hp hbase hIH ha hr : Calls prog 123 #[.pointer (some ⟨b5,0,none⟩),.pointer (some ⟨b7,0,none⟩),.pointer (some ⟨b8,0,none⟩)] W (zbT base g F W r))
 have c6 := hE.e6.1.cell 0;simp at c6;clear hE hp;go_enter func122,ntmps122;go_wp2_with fail
 refine (zcj 123 _ _ (RR base g F W r) zmY (H.out.mono fun e w' q => RR.of q)).mono ?_;rintro e w1 ⟨n,m,rfl,hr⟩;have HRR := Hd hr
 clear hr;go_wp2;exact bodyPost_ret (v := .tuple #[.int .i64 n,.bool true,.int .i64 m]) (by simp [results,results122,go_sem]) rfl ⟨n,m,rfl,HRR.out⟩
theorem zqE (hE : OpE g op x a b c d lf rt tn sh b5 b6 b7 b8 b9 b15 b17 b18 b19 b20 b21 b22 b23 b24 F W)(hp : zam W base F g p)(hf : (op == 1 && rt) = false) :
  Calls prog 125 #[.pointer (some ⟨b6,0,none⟩),.pointer (some ⟨b20,0,none⟩),.pointer (some ⟨b5,0,none⟩),.pointer (some ⟨b19,0,none⟩),.pointer (some ⟨b7,0,none⟩),.pointer (some ⟨b8,0,none⟩)] W (fun e w' => e = .returned (.tuple #[.int .i64 0,.bool false,.int .i64 0]) ∧ Below W.heap.size W w') := by
 have c6 := hE.e6.1.cell 0;have c20 := hE.e20.1.cell 0;simp at c6 c20;clear hE hp
 cases h1 : (op == 1)
 ·clear hf
  go_enter func125,ntmps125;go_wp2_with fail
  refine (zbL _ _).mono ?_;rintro e w1 ⟨rfl,rfl⟩;go_wp2;exact bodyPost_ret (v := .tuple #[.int .i64 0,.bool false,.int .i64 0]) (by simp [results,results125,go_sem]) rfl ⟨rfl,Below.refl _ _⟩
 ·obtain rfl : rt = false := by rw [h1] at hf; simpa using hf
  clear hf;go_enter func125,ntmps125;go_wp2_with fail
  refine (zbL _ _).mono ?_;rintro e w1 ⟨rfl,rfl⟩;go_wp2;exact bodyPost_ret (v := .tuple #[.int .i64 0,.bool false,.int .i64 0]) (by simp [results,results125,go_sem]) rfl ⟨rfl,Below.refl _ _⟩
theorem zoQ (hE : OpE g op x a b c d lf rt tn sh b5 b6 b7 b8 b9 b15 b17 b18 b19 b20 b21 b22 b23 b24 F W)(hp : zam W base F g p)(hbase : base ≤ W.heap.size)(hIH : OpC base g f)(ha : I64 a)(hr : zbA (putR p (zaf (zao x (IntKind.u64.wrap (-d))))) (fun q z => opF f q 0 x a z) = some r)(hf : (op == 1 && rt) = true) :
  Calls prog 125 #[.pointer (some ⟨b6,0,none⟩),.pointer (some ⟨b20,0,none⟩),.pointer (some ⟨b5,0,none⟩),.pointer (some ⟨b19,0,none⟩),.pointer (some ⟨b7,0,none⟩),.pointer (some ⟨b8,0,none⟩)] W (fun e w' => ∃ n m,e = .returned (.tuple #[.int .i64 n,.bool true,.int .i64 m]) ∧ RR base g F W r n m w') := by
 have H := Hd (zrV hE hp hbase hIH ha hr : Calls prog 126 #[.pointer (some ⟨b5,0,none⟩),.pointer (some ⟨b19,0,none⟩),.pointer (some ⟨b7,0,none⟩),.pointer (some ⟨b8,0,none⟩)] W (zbT base g F W r))
 have c6 := hE.e6.1.cell 0;have c20 := hE.e20.1.cell 0;simp at c6 c20;clear hE hp;obtain rfl : rt = true := by simp at hf; exact hf.2
 have h1 : (op == 1) = true := by simpa using hf
 clear hf;go_enter func125,ntmps125;go_wp2_with fail
 refine (zcj 126 _ _ (RR base g F W r) zmZ (H.out.mono fun e w' q => RR.of q)).mono ?_;rintro e w1 ⟨n,m,rfl,hr⟩;have HRR := Hd hr
 clear hr;go_wp2;exact bodyPost_ret (v := .tuple #[.int .i64 n,.bool true,.int .i64 m]) (by simp [results,results125,go_sem]) rfl ⟨n,m,rfl,HRR.out⟩
theorem zrW (hE : OpE g op x a b c d lf rt tn sh b5 b6 b7 b8 b9 b15 b17 b18 b19 b20 b21 b22 b23 b24 F W)(hp : zam W base F g p)(hbase : base ≤ W.heap.size)(hIH : OpC base g f)(ha : I64 a)(hb : I64 b)(hr : opF f p op x b a = some r) :
  Calls prog 128 #[.pointer (some ⟨b5,0,none⟩),.pointer (some ⟨b6,0,none⟩),.pointer (some ⟨b7,0,none⟩),.pointer (some ⟨b9,0,none⟩),.pointer (some ⟨b8,0,none⟩)] W (zbT base g F W r) := by
 have HC := Hd (hIH op x b a hb ha F p r hr W hp hbase)
 have c5 := hE.e5.1.cell 0;have c6 := hE.e6.1.cell 0;have c7 := hE.e7.1.cell 0;have c8 := hE.e8.1.cell 0;have c9 := hE.e9.1.cell 0;simp at c5 c6 c7 c8 c9;clear hE hp hIH hr hbase;go_enter func128,ntmps128;go_wp2_with fail
 refine HC.out.mono ?_;rintro e w1 ⟨rfl,hr⟩;have HR := Hd hr
 clear hr;go_wp2;go_ret2;exact ⟨rfl,HR.out⟩
theorem zqF (hE : OpE g op x a b c d lf rt tn sh b5 b6 b7 b8 b9 b15 b17 b18 b19 b20 b21 b22 b23 b24 F W)(hp : zam W base F g p)(hf : (tn && (lf || (!rt && decide (b < a)))) = false) :
  Calls prog 127 #[.pointer (some ⟨b23,0,none⟩),.pointer (some ⟨b18,0,none⟩),.pointer (some ⟨b20,0,none⟩),.pointer (some ⟨b9,0,none⟩),.pointer (some ⟨b8,0,none⟩),.pointer (some ⟨b5,0,none⟩),.pointer (some ⟨b6,0,none⟩),.pointer (some ⟨b7,0,none⟩)] W (fun e w' => e = .returned (.tuple #[.int .i64 0,.bool false,.int .i64 0]) ∧ Below W.heap.size W w') := by
 have c23 := hE.e23.1.cell 0;have c18 := hE.e18.1.cell 0;have c20 := hE.e20.1.cell 0;have c9 := hE.e9.1.cell 0;have c8 := hE.e8.1.cell 0;simp at c23 c18 c20 c9 c8;clear hE hp
 cases tn
 ·clear hf
  go_enter func127,ntmps127;go_wp2_with fail
  refine (zbL _ _).mono ?_;rintro e w1 ⟨rfl,rfl⟩;go_wp2;exact bodyPost_ret (v := .tuple #[.int .i64 0,.bool false,.int .i64 0]) (by simp [results,results127,go_sem]) rfl ⟨rfl,Below.refl _ _⟩
 ·cases lf
  ·cases rt
   ·have hd : decide (b < a) = false := by simpa using hf
    clear hf;go_enter func127,ntmps127;go_wp2_with fail
    refine (zbL _ _).mono ?_;rintro e w1 ⟨rfl,rfl⟩;go_wp2;exact bodyPost_ret (v := .tuple #[.int .i64 0,.bool false,.int .i64 0]) (by simp [results,results127,go_sem]) rfl ⟨rfl,Below.refl _ _⟩
   ·clear hf
    go_enter func127,ntmps127;go_wp2_with fail
    refine (zbL _ _).mono ?_;rintro e w1 ⟨rfl,rfl⟩;go_wp2;exact bodyPost_ret (v := .tuple #[.int .i64 0,.bool false,.int .i64 0]) (by simp [results,results127,go_sem]) rfl ⟨rfl,Below.refl _ _⟩
  ·simp at hf
theorem zoR (hE : OpE g op x a b c d lf rt tn sh b5 b6 b7 b8 b9 b15 b17 b18 b19 b20 b21 b22 b23 b24 F W)(hp : zam W base F g p)(hbase : base ≤ W.heap.size)(hIH : OpC base g f)(ha : I64 a)(hb : I64 b)(hr : opF f p op x b a = some r)(hf : (tn && (lf || (!rt && decide (b < a)))) = true) :
  Calls prog 127 #[.pointer (some ⟨b23,0,none⟩),.pointer (some ⟨b18,0,none⟩),.pointer (some ⟨b20,0,none⟩),.pointer (some ⟨b9,0,none⟩),.pointer (some ⟨b8,0,none⟩),.pointer (some ⟨b5,0,none⟩),.pointer (some ⟨b6,0,none⟩),.pointer (some ⟨b7,0,none⟩)] W (fun e w' => ∃ n m,e = .returned (.tuple #[.int .i64 n,.bool true,.int .i64 m]) ∧ RR base g F W r n m w') := by
 have H := Hd (zrW hE hp hbase hIH ha hb hr : Calls prog 128 #[.pointer (some ⟨b5,0,none⟩),.pointer (some ⟨b6,0,none⟩),.pointer (some ⟨b7,0,none⟩),.pointer (some ⟨b9,0,none⟩),.pointer (some ⟨b8,0,none⟩)] W (zbT base g F W r))
 have c23 := hE.e23.1.cell 0;have c18 := hE.e18.1.cell 0;have c20 := hE.e20.1.cell 0;have c9 := hE.e9.1.cell 0;have c8 := hE.e8.1.cell 0;simp at c23 c18 c20 c9 c8;clear hE hp
 cases tn
 ·simp at hf
 ·cases lf
  ·cases rt
   ·have hd : decide (b < a) = true := by simpa using hf
    clear hf;go_enter func127,ntmps127;go_wp2_with fail
    refine (zcj 128 _ _ (RR base g F W r) zh9 (H.out.mono fun e w' q => RR.of q)).mono ?_;rintro e w1 ⟨n,m,rfl,hr⟩;have HRR := Hd hr
    clear hr;go_wp2;exact bodyPost_ret (v := .tuple #[.int .i64 n,.bool true,.int .i64 m]) (by simp [results,results127,go_sem]) rfl ⟨n,m,rfl,HRR.out⟩
   ·simp at hf
  ·clear hf
   go_enter func127,ntmps127;go_wp2_with fail
   refine (zcj 128 _ _ (RR base g F W r) zh9 (H.out.mono fun e w' q => RR.of q)).mono ?_;rintro e w1 ⟨n,m,rfl,hr⟩;have HRR := Hd hr
   clear hr;go_wp2;exact bodyPost_ret (v := .tuple #[.int .i64 n,.bool true,.int .i64 m]) (by simp [results,results127,go_sem]) rfl ⟨n,m,rfl,HRR.out⟩
def opT (op x a b : Int) : TD := ⟨2,op,x,0,a,b,0⟩
theorem zhw (op x a b : Int)(w : World) : (Instr.build 147 #[(0,.int .i8 2),(1,.int .i8 op),(2,.int .i8 x),(4,.int .i64 a),(5,.int .i64 b)]).run prog w = .ok (zaw (opT op x a b)) w := run_build w 147 _ _ (by kernel_rfl)
theorem zm1 {op x a b : Int}(ho : I8 op)(hx : I8 x)(ha : I64 a)(hb : I64 b) : (opT op x a b).wf := by unfold TD.wf I8 U64 I64 opT; unfold I8 at ho hx; unfold I64 at ha hb; dsimp only; exact ⟨by omega,ho,hx,by omega,ha,hb,by omega⟩
theorem zoS (hE : OpE g op x a b c d lf rt tn sh b5 b6 b7 b8 b9 b15 b17 b18 b19 b20 b21 b22 b23 b24 F W)(hp : zam W base F g p)(hbase : base ≤ W.heap.size)(ho : I8 op)(hx : I8 x)(ha : I64 a)(hb : I64 b) :
  Calls prog 136 #[.pointer (some ⟨b5,0,none⟩),.pointer (some ⟨b6,0,none⟩),.pointer (some ⟨b7,0,none⟩),.pointer (some ⟨b8,0,none⟩),.pointer (some ⟨b9,0,none⟩)] W (zbT base g F W (putR p (opT op x a b))) := by
 have HC := Hd (zkH _ (zm1 ho hx ha hb) W hp hbase)
 have q := fun (w : World) => zhw op x a b w
 have c5 := hE.e5.1.cell 0;have c6 := hE.e6.1.cell 0;have c7 := hE.e7.1.cell 0;have c8 := hE.e8.1.cell 0;have c9 := hE.e9.1.cell 0;simp at c5 c6 c7 c8 c9;clear hE hp hbase;go_enter func136,ntmps136;go_wp2_with fail
 refine HC.out.mono ?_;rintro e w1 ⟨rfl,hr⟩;have HR := Hd hr
 clear hr;go_wp2;go_ret2;exact ⟨rfl,HR.out⟩
end
end
section
def ze3 (f : Nat)(p : PS)(x a : Int) : Option RS := if zal p.T a = false ∨ wdB x = false then some (p,0,2) else zbw f p x a
theorem zm2 {x : Int}(h : wdB x = true) : x = 8 ∨ x = 16 ∨ x = 32 ∨ x = 64 := by unfold wdB at h; simp at h; omega
theorem zbB (w : World)(e : TypeId)(xs : List Value)(n : Nat)(hn : xs.length = n * 1) : zaU (w.alloc (.cells xs.toArray e)) (w.alloc (.cells xs.toArray e)).heap.size 1 (some ⟨w.heap.size,0,none⟩) n xs := zbH (Blk.new w e xs.toArray) n 1 hn
section
variable {base g : Nat}{F : Nat → Prop}{p : PS}
theorem zoT (f : Nat)(x a : Int)(ha : I64 a)(r : RS)(hz : ze3 f p x a = some r)(w : World)(h : zam w base F g p)(hbase : base ≤ w.heap.size) :
  Calls prog 79 #[.pointer (some ⟨g,0,none⟩),.int .i8 x,.int .i64 a] w (zbT base g F w r) := by
 have hb0 : Below w.heap.size w (w.alloc (.cells #[.int .i64 a] 3)) := (Below.refl _ w).alloc (ztn _) _;have HP := Hd (PG.of_below h hb0)
 have HRD := Hd (zbB w 3 [.int .i64 a] 1 rfl)
 obtain ⟨hb,hhb⟩ : ∃ hb,zal p.T a = hb := ⟨_,rfl⟩;obtain ⟨wb,hwb⟩ : ∃ wb,wdB x = wb := ⟨_,rfl⟩;have HE := Hd hz
 unfold ze3 at HE;have HHB := Hd hhb
 have HWB := Hd hwb
 rw [hhb,hwb] at HE;have HA := Hd ha
 have hbs := zto hbase HP.out.size;clear h hb0 hz hhb hwb ha;go_enter func79,ntmps79;go_wp2_with fail
 refine (zf0 [a] _ 1 1 _ HP.out.pool HRD.out rfl (ztn _) (by omega)).mono ?_;rintro e w1 ⟨rfl,hb1⟩;have HP1 := Hd (HP.out.step hb1)
 clear hb1 HP HRD;have hbs1 := zto hbase HP1.out.size
 cases hb
 ·rw [show (if [a].all (zal p.T) = true then (0 : Int) else 2) = 2 by simp [HHB.out]]
  go_wp2;go_ret2;have he := HE.out;rw [if_pos (by simp)] at he;injection he with he
  rw [← he];exact zbT.same HP1.out
 ·rw [show (if [a].all (zal p.T) = true then (0 : Int) else 2) = 0 by simp [HHB.out]]
  go_wp2_with fail
  refine (zgi x _).mono ?_;rintro e w2 ⟨rfl,rfl⟩;rw [HWB.out]
  cases wb
  ·go_wp2
   go_ret2;have he := HE.out;rw [if_pos (by simp)] at he;injection he with he
   rw [← he];exact zbT.same HP1.out
  ·have HZ := Hd (show zbw f p x a = some r by have he := HE.out; simpa using he)
   go_wp2_with fail
   refine (zjY x (zm2 HWB.out) f a HA.out _ p r HZ.out _ HP1.out.pool hbs1).mono ?_;rintro e w3 ⟨rfl,hr⟩;have HR := Hd hr
   clear hr;go_wp2;go_ret2;exact zbT.from HP1.out ⟨rfl,HR.out⟩
end
end
end Go.Proofs.YtepagfkkjlbipaaGreat
