/-
  Parts of the proof of SymbcRuns. Conditions: those written in each statement.
-/
import Derived.Test.YtepagfkkjlbipaaGreatKaf
import Derived.Test.YtepagfkkjlbipaaGreatKae
set_option linter.unusedVariables false
set_option linter.unusedSimpArgs false
set_option maxHeartbeats 64000000
set_option maxRecDepth 100000
namespace Go.Proofs.YtepagfkkjlbipaaGreat
open Go.RowKit
open Tryz
section
def zcw (a b : Int) : Int := if a < b then -1 else if b < a then 1 else 0
def zaJ (cc x a b : Int) : Bool :=
 if cc = 10 then bits .and .u64 (zao x a) (zao x b) != 0
 else
  let c := if 6 ≤ cc then zcw (wrap64 (zbj x (zao x a))) (wrap64 (zbj x (zao x b))) else zcw (zao x a) (zao x b)
  if cc = 0 then c == 0 else if cc = 1 then c != 0 else if cc = 2 ∨ cc = 6 then decide (0 < c) else if cc = 3 ∨ cc = 7 then decide (0 ≤ c) else if cc = 4 ∨ cc = 8 then decide (c < 0) else decide (c ≤ 0)
def zaW (cc x : Int) : Bool := decide (0 ≤ cc) && (decide (cc ≤ 10) && zcb x)
theorem zrm (a b : Int)(w : World) : Calls prog 150 #[.int .u64 a,.int .u64 b] w fun e w' => e = .returned (.int .i64 (zcw a b)) ∧ w = w' := by
 cases h1 : decide (a < b)
 ·cases h2 : decide (b < a)
  ·go_enter func150,ntmps150
   go_wp2;go_ret;exact ⟨zeu (by simp at h1 h2; unfold zcw; rw [if_neg (by omega),if_neg (by omega)]),rfl⟩
  ·go_enter func150,ntmps150
   go_wp2;go_ret;exact ⟨zeu (by simp at h1 h2; unfold zcw; rw [if_neg (by omega),if_pos (by omega)]),rfl⟩
 ·go_enter func150,ntmps150
  go_wp2;go_ret;exact ⟨zeu (by simp at h1; unfold zcw; rw [if_pos (by omega)]),rfl⟩
theorem zsM (a b : Int)(w : World) : Calls prog 151 #[.int .i64 a,.int .i64 b] w fun e w' => e = .returned (.int .i64 (zcw a b)) ∧ w = w' := by
 cases h1 : decide (a < b)
 ·cases h2 : decide (b < a)
  ·go_enter func151,ntmps151
   go_wp2;go_ret;exact ⟨zeu (by simp at h1 h2; unfold zcw; rw [if_neg (by omega),if_neg (by omega)]),rfl⟩
  ·go_enter func151,ntmps151
   go_wp2;go_ret;exact ⟨zeu (by simp at h1 h2; unfold zcw; rw [if_neg (by omega),if_pos (by omega)]),rfl⟩
 ·go_enter func151,ntmps151
  go_wp2;go_ret;exact ⟨zeu (by simp at h1; unfold zcw; rw [if_pos (by omega)]),rfl⟩
theorem zpq {a b : Bool}{k : Int}(h : a = b) : Ending.returned (.tuple #[.bool a,.int .i64 k]) = .returned (.tuple #[.bool b,.int .i64 k]) := by rw [h]
theorem zgD {cc x : Int}(h : zaW cc x = false) : cc < 0 ∨ 10 < cc ∨ zcb x = false := by
 unfold zaW at h
 cases hl : zcb x
 ·exact .inr (.inr rfl)
 ·rw [hl] at h
  simp at h
  by_cases h0 : cc < 0
  ·exact .inl h0
  ·exact .inr (.inl (by omega))
theorem za7 {cc x : Int}(h : zaW cc x = true) : (x = 32 ∨ x = 64) ∧ 0 ≤ cc ∧ cc ≤ 10 := by
 unfold zaW zcb at h;simp at h;omega
theorem zn1 {cc x : Int}(a b : Int)(w : World)(h0 : zaW cc x = false) : Calls prog 99 #[.int .i8 cc,.int .i8 x,.int .u64 a,.int .u64 b] w fun e w' => e = .returned (.tuple #[.bool false,.int .i64 2]) ∧ w = w' := by
 have h := zgD h0;clear h0
 cases h1 : decide (cc < 0)
 ·cases h2 : decide (10 < cc)
  ·have HL := Hd (show zcb x = false by simp at h1 h2; rcases h with h | h | h <;> first | exact h | omega)
   clear h;go_enter func99,ntmps99;go_wp2_with fail
   refine (zdz x _).mono ?_;rintro e w' ⟨rfl,rfl⟩;rw [HL.out];go_wp2;go_ret2;exact ⟨rfl,rfl⟩
  ·clear h
   go_enter func99,ntmps99;go_wp2;go_ret2;exact ⟨rfl,rfl⟩
 ·clear h
  go_enter func99,ntmps99;go_wp2;go_ret2;exact ⟨rfl,rfl⟩
theorem zsN (b0 b1 b2 b3 b4 b5 b6 b7 b8 b9 : Bool)(w : World) : (Instr.index 201 (.agg #[.bool b0,.bool b1,.bool b2,.bool b3,.bool b4,.bool b5,.bool b6,.bool b7,.bool b8,.bool b9]) (.int .i8 0)).run prog w = .ok (.bool b0) w := by kernel_rfl
theorem zsO (b0 b1 b2 b3 b4 b5 b6 b7 b8 b9 : Bool)(w : World) : (Instr.index 201 (.agg #[.bool b0,.bool b1,.bool b2,.bool b3,.bool b4,.bool b5,.bool b6,.bool b7,.bool b8,.bool b9]) (.int .i8 1)).run prog w = .ok (.bool b1) w := by kernel_rfl
theorem zsP (b0 b1 b2 b3 b4 b5 b6 b7 b8 b9 : Bool)(w : World) : (Instr.index 201 (.agg #[.bool b0,.bool b1,.bool b2,.bool b3,.bool b4,.bool b5,.bool b6,.bool b7,.bool b8,.bool b9]) (.int .i8 2)).run prog w = .ok (.bool b2) w := by kernel_rfl
theorem zsQ (b0 b1 b2 b3 b4 b5 b6 b7 b8 b9 : Bool)(w : World) : (Instr.index 201 (.agg #[.bool b0,.bool b1,.bool b2,.bool b3,.bool b4,.bool b5,.bool b6,.bool b7,.bool b8,.bool b9]) (.int .i8 3)).run prog w = .ok (.bool b3) w := by kernel_rfl
theorem zsR (b0 b1 b2 b3 b4 b5 b6 b7 b8 b9 : Bool)(w : World) : (Instr.index 201 (.agg #[.bool b0,.bool b1,.bool b2,.bool b3,.bool b4,.bool b5,.bool b6,.bool b7,.bool b8,.bool b9]) (.int .i8 4)).run prog w = .ok (.bool b4) w := by kernel_rfl
theorem zsS (b0 b1 b2 b3 b4 b5 b6 b7 b8 b9 : Bool)(w : World) : (Instr.index 201 (.agg #[.bool b0,.bool b1,.bool b2,.bool b3,.bool b4,.bool b5,.bool b6,.bool b7,.bool b8,.bool b9]) (.int .i8 5)).run prog w = .ok (.bool b5) w := by kernel_rfl
theorem zsT (b0 b1 b2 b3 b4 b5 b6 b7 b8 b9 : Bool)(w : World) : (Instr.index 201 (.agg #[.bool b0,.bool b1,.bool b2,.bool b3,.bool b4,.bool b5,.bool b6,.bool b7,.bool b8,.bool b9]) (.int .i8 6)).run prog w = .ok (.bool b6) w := by kernel_rfl
theorem zsU (b0 b1 b2 b3 b4 b5 b6 b7 b8 b9 : Bool)(w : World) : (Instr.index 201 (.agg #[.bool b0,.bool b1,.bool b2,.bool b3,.bool b4,.bool b5,.bool b6,.bool b7,.bool b8,.bool b9]) (.int .i8 7)).run prog w = .ok (.bool b7) w := by kernel_rfl
theorem zsV (b0 b1 b2 b3 b4 b5 b6 b7 b8 b9 : Bool)(w : World) : (Instr.index 201 (.agg #[.bool b0,.bool b1,.bool b2,.bool b3,.bool b4,.bool b5,.bool b6,.bool b7,.bool b8,.bool b9]) (.int .i8 8)).run prog w = .ok (.bool b8) w := by kernel_rfl
theorem zsW (b0 b1 b2 b3 b4 b5 b6 b7 b8 b9 : Bool)(w : World) : (Instr.index 201 (.agg #[.bool b0,.bool b1,.bool b2,.bool b3,.bool b4,.bool b5,.bool b6,.bool b7,.bool b8,.bool b9]) (.int .i8 9)).run prog w = .ok (.bool b9) w := by kernel_rfl
theorem zfN {cc x : Int}(a b : Int)(w : World)(h : zaW cc x = true) : Calls prog 99 #[.int .i8 cc,.int .i8 x,.int .u64 a,.int .u64 b] w fun e w' => e = .returned (.tuple #[.bool (zaJ cc x a b),.int .i64 0]) ∧ w = w' := by
 obtain ⟨hx,h0,h1⟩ := za7 h;have hL : zcb x = true := by rcases hx with rfl | rfl <;> rfl
 have hops : (cc = 0 ∨ cc = 1 ∨ cc = 2 ∨ cc = 3 ∨ cc = 4 ∨ cc = 5) ∨ (cc = 6 ∨ cc = 7 ∨ cc = 8 ∨ cc = 9) ∨ cc = 10 := by omega
 clear h h0 h1 hx;have HL := Hd hL
 clear hL
 rcases hops with hops | hops | rfl
 ·rcases hops with rfl | rfl | rfl | rfl | rfl | rfl
  all_goals
   go_enter func99,ntmps99;go_wp2_with fail
   refine (zdz _ _).mono ?_;rintro e w' ⟨rfl,rfl⟩;rw [HL.out];go_wp2_with fail
   refine (zbD _ _ _).mono ?_;rintro e w' ⟨rfl,rfl⟩;go_wp2_with fail
   refine (zbD _ _ _).mono ?_;rintro e w' ⟨rfl,rfl⟩;go_wp2_with fail
   refine (zrm _ _ _).mono ?_;rintro e w' ⟨rfl,rfl⟩;obtain ⟨c,hc⟩ : ∃ c,zcw (zao x a) (zao x b) = c := ⟨_,rfl⟩;rw [hc];have HC := Hd hc
   clear hc;have p0 := zsN; have p1 := zsO; have p2 := zsP; have p3 := zsQ; have p4 := zsR; have p5 := zsS;go_wp2;go_ret2;exact ⟨zpq (by unfold zaJ; simp [HC.out]),rfl⟩
 ·rcases hops with rfl | rfl | rfl | rfl
  all_goals
   go_enter func99,ntmps99;go_wp2_with fail
   refine (zdz _ _).mono ?_;rintro e w' ⟨rfl,rfl⟩;rw [HL.out];go_wp2_with fail
   refine (zbD _ _ _).mono ?_;rintro e w' ⟨rfl,rfl⟩;go_wp2_with fail
   refine (zbD _ _ _).mono ?_;rintro e w' ⟨rfl,rfl⟩;go_wp2_with fail
   refine (zrm _ _ _).mono ?_;rintro e w' ⟨rfl,rfl⟩;obtain ⟨c,hc⟩ : ∃ c,zcw (zao x a) (zao x b) = c := ⟨_,rfl⟩;rw [hc];have HC := Hd hc
   clear hc;go_wp2_with fail
   refine (zhp _ _ _).mono ?_;rintro e w' ⟨rfl,rfl⟩;go_wp2_with fail
   refine (zhp _ _ _).mono ?_;rintro e w' ⟨rfl,rfl⟩;go_wp2_with fail
   refine (zsM _ _ _).mono ?_;rintro e w' ⟨rfl,rfl⟩;clear HC;obtain ⟨c,hc⟩ : ∃ c,zcw (wrap64 (zbj x (zao x a))) (wrap64 (zbj x (zao x b))) = c := ⟨_,rfl⟩;rw [hc];have HC := Hd hc
   clear hc;have p6 := zsT; have p7 := zsU; have p8 := zsV; have p9 := zsW;go_wp2;go_ret2;exact ⟨zpq (by unfold zaJ; simp [HC.out]),rfl⟩
 ·go_enter func99,ntmps99
  go_wp2_with fail
  refine (zdz _ _).mono ?_;rintro e w' ⟨rfl,rfl⟩;rw [HL.out];go_wp2_with fail
  refine (zbD _ _ _).mono ?_;rintro e w' ⟨rfl,rfl⟩;go_wp2_with fail
  refine (zbD _ _ _).mono ?_;rintro e w' ⟨rfl,rfl⟩;go_wp2;go_ret2;exact ⟨rfl,rfl⟩
end
section
def zp7 (b : Bool)(w : World)(e : Ending)(w' : World) : Prop := e = .returned (.bool b) ∧ Below w.heap.size w w'
theorem zp8 (x : ID)(w : World)(hx : x.wf) : Calls prog 110 #[.agg x.cells.toArray] w (zp7 (ze8 x) w) := by
 have hr := zpg hx;have hk := ztm hx.1;have heq := zr6 hr hk;obtain ⟨r,hR⟩ : ∃ r,zdh x = r := ⟨_,rfl⟩;obtain ⟨m,hM⟩ : ∃ m,zcK x = m := ⟨_,rfl⟩;obtain ⟨q,hQ⟩ : ∃ m,eqL (zdh x).cells (kz x.kind).cells = m := ⟨_,rfl⟩;have hB : ze8 x = (zq7 x && (m && q)) := by unfold ze8; rw [hM,hQ]
 rw [hB];have HBA : ∀ W,Calls prog 156 #[.agg x.cells.toArray] W fun e w' => e = .returned (.tuple #[.agg r.cells.toArray,.bool m]) ∧ Below W.heap.size W w' := fun W => by
  have := zo2 x W;unfold zkW at this;rw [hR,hM] at this;exact this
 simp only [hQ] at heq;rw [hR] at heq;have hrl : r.cells.length = 9 := rfl;clear hr hk hB hM hQ hR;obtain ⟨iI,hiI,hzI,hsI,_⟩ := info_parts infI;have II := Hd (ztp hiI (ztp hzI hsI))
 clear hiI hzI hsI;obtain ⟨k,op,wd,sz,br,dst,src,off,imm⟩ := x;unfold zq7;dsimp only;have HB := Hd HBA
 have HE : ∀ W,(binOp .eql 47 (.agg r.cells.toArray) (.agg #[.int .i8 k,.int .i8 0,.int .i8 0,.int .i8 0,.bool false,.int .i8 0,.int .i8 0,.int .i64 0,.int .i64 0])).run prog W = .ok (.bool q) W := heq;have HEH := Hd HE
 clear HBA heq hx HE
 cases h1 : inB dst 0 10
 ·show Calls prog 110 #[.agg #[.int .i8 k,.int .i8 op,.int .i8 wd,.int .i8 sz,.bool br,.int .i8 dst,.int .i8 src,.int .i64 off,.int .i64 imm]] w _
  go_enter func110,ntmps110;go_wp2_with (first
   | (go_at_call 155; refine (zbl _ _ _ _).mono ?_; rintro e w' ⟨rfl,rfl⟩; first | rw [h1] | rw [h2]))
  go_ret;exact ⟨rfl,(Below.refl _ _).alloc (ztn _) _⟩
 ·cases h2 : inB src 0 10
  ·show Calls prog 110 #[.agg #[.int .i8 k,.int .i8 op,.int .i8 wd,.int .i8 sz,.bool br,.int .i8 dst,.int .i8 src,.int .i64 off,.int .i64 imm]] w _
   go_enter func110,ntmps110;go_wp2_with fail
   refine (zbl _ _ _ _).mono ?_; rintro e w' ⟨rfl,rfl⟩; rw [h1];go_wp2_with fail
   refine (zbl _ _ _ _).mono ?_; rintro e w' ⟨rfl,rfl⟩; rw [h2];go_wp2;go_ret;exact ⟨rfl,(Below.refl _ _).alloc (ztn _) _⟩
  ·cases h3 : inB off (-32768) 32767
   ·show Calls prog 110 #[.agg #[.int .i8 k,.int .i8 op,.int .i8 wd,.int .i8 sz,.bool br,.int .i8 dst,.int .i8 src,.int .i64 off,.int .i64 imm]] w _
    go_enter func110,ntmps110;go_wp2_with fail
    refine (zbl _ _ _ _).mono ?_; rintro e w' ⟨rfl,rfl⟩; rw [h1];go_wp2_with fail
    refine (zbl _ _ _ _).mono ?_; rintro e w' ⟨rfl,rfl⟩; rw [h2];go_wp2_with fail
    refine (zbd _ _ _ _).mono ?_; rintro e w' ⟨rfl,rfl⟩; rw [h3];go_wp2;go_ret;exact ⟨rfl,(Below.refl _ _).alloc (ztn _) _⟩
   ·cases h4 : inB imm (-2147483648) 2147483647
    ·show Calls prog 110 #[.agg #[.int .i8 k,.int .i8 op,.int .i8 wd,.int .i8 sz,.bool br,.int .i8 dst,.int .i8 src,.int .i64 off,.int .i64 imm]] w _
     go_enter func110,ntmps110;go_wp2_with fail
     refine (zbl _ _ _ _).mono ?_; rintro e w' ⟨rfl,rfl⟩; rw [h1];go_wp2_with fail
     refine (zbl _ _ _ _).mono ?_; rintro e w' ⟨rfl,rfl⟩; rw [h2];go_wp2_with fail
     refine (zbd _ _ _ _).mono ?_; rintro e w' ⟨rfl,rfl⟩; rw [h3];go_wp2_with fail
     refine (zbd _ _ _ _).mono ?_; rintro e w' ⟨rfl,rfl⟩; rw [h4];go_wp2;go_ret;exact ⟨rfl,(Below.refl _ _).alloc (ztn _) _⟩
    ·cases m
     all_goals
      show Calls prog 110 #[.agg #[.int .i8 k,.int .i8 op,.int .i8 wd,.int .i8 sz,.bool br,.int .i8 dst,.int .i8 src,.int .i64 off,.int .i64 imm]] w _
      go_enter func110,ntmps110;go_wp2_with fail
      refine (zbl _ _ _ _).mono ?_; rintro e w' ⟨rfl,rfl⟩; rw [h1];go_wp2_with fail
      refine (zbl _ _ _ _).mono ?_; rintro e w' ⟨rfl,rfl⟩; rw [h2];go_wp2_with fail
      refine (zbd _ _ _ _).mono ?_; rintro e w' ⟨rfl,rfl⟩; rw [h3];go_wp2_with fail
      refine (zbd _ _ _ _).mono ?_; rintro e w' ⟨rfl,rfl⟩; rw [h4];go_wp2_with fail
      refine (HB.out _).mono ?_;rintro e w1 ⟨rfl,hb⟩;have hbb : Below w.heap.size w w1 := ((Below.refl _ _).alloc (ztn _) _).trans (hb.mono (zaF _ (ztn _)));have q0 : w1.cell? ⟨w.heap.size,0,none⟩ = some (.int .i8 k) := by rw [hb.cell (by simp)]; simp
      have hlt : w.heap.size < w1.heap.size := by have := hb.size; simp at this; omega
      have HBB := Hd hbb
      clear hb hbb;go_wp2_with (first
       | (refine zkC rfl rfl 47 (.tmp 3) (.tmp 30) rfl rfl iI _ (.agg r.cells.toArray) r.cells.toArray II.out.1 II.out.2.1 (by rw [II.out.2.2]; rfl) rfl (by rw [II.out.2.2]; rfl) (zqN r.one) (by rfl) (by rfl) ?_
          intro w2 g2 G2 X2 L2;have q1 : w2.cell? ⟨w.heap.size,0,none⟩ = some (.int .i8 k) := (L2.cell (p := ⟨w.heap.size,0,none⟩) hlt).trans q0;have HX2 := Hd X2
          have HB2 := Hd (HBB.out.trans (L2.mono (ztu hlt)))
          have HE := HEH.out;clear X2 L2 q0)
       | (refine zc4 (by rfl) 47 (.tmp 3) rfl ⟨g2,0,none⟩ (by rfl) r.cells _ (zak HX2.out) underlying47 rfl ziZ ?_))
      go_ret;exact ⟨rfl,HB2.out⟩
end
section
def TgtP (i : Int)(x : ID)(w : World)(e : Ending)(w' : World) : Prop := e = .returned (.tuple #[.int .i64 (zdE i x),.bool (zcE i x)]) ∧ Below w.heap.size w w'
theorem zfb {i : Int}{x : ID}(h : zcE i x = false) : zdE i x = 0 := by unfold zdE; rw [h]; rfl
theorem zcR (i : Int)(x : ID)(w : World) : Calls prog 72 #[.int .i64 i,.agg x.cells.toArray] w (TgtP i x w) := by
 obtain ⟨k,op,wd,sz,br,dst,src,off,imm⟩ := x;show Calls prog 72 #[.int .i64 i,.agg #[.int .i8 k,.int .i8 op,.int .i8 wd,.int .i8 sz,.bool br,.int .i8 dst,.int .i8 src,.int .i64 off,.int .i64 imm]] w _
 by_cases h3 : k = 3 ∨ k = 4
 ·cases h1 : inB i (-1099511627776) 1099511627776
  ·have hT : zcE i ⟨k,op,wd,sz,br,dst,src,off,imm⟩ = false := by unfold zcE; rw [h1]; simp
   have HT := Hd hT
   clear hT
   rcases h3 with rfl | rfl
   all_goals
    go_enter func72,ntmps72;go_wp2_with fail
    refine (zbd _ _ _ _).mono ?_; rintro e w' ⟨rfl,rfl⟩; rw [h1];go_wp2;go_ret2;exact ⟨by rw [zfb HT.out,HT.out]; rfl,(Below.refl _ _).alloc (ztn _) _⟩
  ·cases h2 : inB off (-1099511627776) 1099511627776
   ·have hT : zcE i ⟨k,op,wd,sz,br,dst,src,off,imm⟩ = false := by unfold zcE; rw [h1,h2]; simp
    have HT := Hd hT
    clear hT
    rcases h3 with rfl | rfl
    all_goals
     go_enter func72,ntmps72;go_wp2_with fail
     refine (zbd _ _ _ _).mono ?_; rintro e w' ⟨rfl,rfl⟩; rw [h1];go_wp2_with fail
     refine (zbd _ _ _ _).mono ?_; rintro e w' ⟨rfl,rfl⟩; rw [h2];go_wp2;go_ret2;exact ⟨by rw [zfb HT.out,HT.out]; rfl,(Below.refl _ _).alloc (ztn _) _⟩
   ·obtain ⟨i0,i1⟩ := zbm.1 h1
    obtain ⟨o0,o1⟩ := zbm.1 h2;have hT : zcE i ⟨k,op,wd,sz,br,dst,src,off,imm⟩ = true := by unfold zcE; rw [h1,h2]; rcases h3 with rfl | rfl <;> simp
    have hN : zdE i ⟨k,op,wd,sz,br,dst,src,off,imm⟩ = i + 1 + off := by unfold zdE; rw [hT]; rfl
    have HT := Hd hT
    have HN := Hd hN
    clear hT hN
    rcases h3 with rfl | rfl
    all_goals
     go_enter func72,ntmps72;go_wp2_with fail
     refine (zbd _ _ _ _).mono ?_; rintro e w' ⟨rfl,rfl⟩; rw [h1];go_wp2_with fail
     refine (zbd _ _ _ _).mono ?_; rintro e w' ⟨rfl,rfl⟩; rw [h2];go_wp2;go_ret2;exact ⟨by rw [HN.out,HT.out]; rfl,(Below.refl _ _).alloc (ztn _) _⟩
 ·have hT : zcE i ⟨k,op,wd,sz,br,dst,src,off,imm⟩ = false := by unfold zcE; simp only [zuj]; left; left; simp; omega
  have HT := Hd hT
  have b3 : (k != 3) = true := by rw [bne_iff_ne]; omega
  have b4 : (k != 4) = true := by rw [bne_iff_ne]; omega
  clear hT h3;go_enter func72,ntmps72;go_wp2;go_ret2;exact ⟨by rw [zfb HT.out,HT.out]; rfl,(Below.refl _ _).alloc (ztn _) _⟩
def zrn (c : Int)(l : List ID)(W : World)(A : Option Addr)(n : Nat)(sl : Value)(i : Value)(wr : World) : Prop :=
 ∃ k : Nat,k ≤ n ∧ i = .int .i64 k ∧ (∀ j x,j < k → l[j]? = some x → zdI n j x = true) ∧ zcJ wr W.heap.size A n l ∧ wr.cell? ⟨W.heap.size,1,none⟩ = some sl ∧ Below W.heap.size W wr ∧ W.heap.size < wr.heap.size
def ChkP (c : Int)(l : List ID)(w : World)(e : Ending)(w' : World) : Prop := e = .returned (.tuple #[.int .i64 (zdj c l).1,.int .i64 (zdj c l).2]) ∧ Below w.heap.size w w'
theorem zlJ (c : Int)(A : Option Addr)(n cap : Nat)(l : List ID)(w : World)(hh : zcJ w w.heap.size A n l)(hc : n ≤ cap)(hm : n < 9223372036854775808) :
  Calls prog 71 #[.agg #[.int .i64 c,.slice A n cap]] w (ChkP c l w) := by
 have hl := Hd hh.1
 have HH := Hd hh
 clear hh
 cases h1 : inB c 0 256
 ·have HC := Hd (zjb (l := l) h1)
  go_enter func71,ntmps71;go_wp2_with fail
  refine (zbd _ _ _ _).mono ?_; rintro e w' ⟨rfl,rfl⟩; rw [h1];go_wp2;go_ret2;exact ⟨by rw [HC.out]; rfl,(Below.refl _ _).alloc (ztn _) _⟩
 ·cases h2 : inB ((n : Int) - 1) 0 63
  ·have HC := Hd (zkc (l := l) h1 (by rw [hl.out]; exact h2))
   go_enter func71,ntmps71;go_wp2_with fail
   refine (zbd _ _ _ _).mono ?_; rintro e w' ⟨rfl,rfl⟩; rw [h1];go_wp2_with fail
   refine (zbd _ _ _ _).mono ?_; rintro e w' ⟨rfl,rfl⟩; rw [h2];go_wp2;go_ret2;exact ⟨by rw [HC.out]; rfl,(Below.refl _ _).alloc (ztn _) _⟩
  ·have hn := zbm.1 h2
   have hn1 : 1 ≤ n := by omega
   have hn2 : n ≤ 64 := by omega
   have h2' := Hd (show inB ((l.length : Int) - 1) 0 63 = true by rw [hl.out]; exact h2)
   have h1' := Hd h1
   clear hn;obtain ⟨iI,hiI,hzI,hsI,_⟩ := info_parts infI;have II := Hd (ztp hiI (ztp hzI hsI))
   clear hiI hzI hsI;go_enter func71,ntmps71;go_wp2_with fail
   refine (zbd _ _ _ _).mono ?_; rintro e w' ⟨rfl,rfl⟩; rw [h1];go_wp2_with fail
   refine (zbd _ _ _ _).mono ?_; rintro e w' ⟨rfl,rfl⟩; rw [h2];clear h1 h2;go_wp2;go_loopw [26] (fun i wr => zrn c l w A n (.slice A n cap) i wr) (fun i _ => n - (intOf i).toNat)
   case atStart => exact ⟨0,by omega,rfl,by omega,HH.out.alloc (ztn _) _,by simp,(Below.refl _ _).alloc (ztn _) _,by simp⟩
   case round =>
    obtain ⟨k,hk,rfl,hok,hat,hc0,hbel,hsz⟩ := hrel;have HB := Hd hbel
    have HOK := Hd hok
    have HAT := Hd hat
    clear hbel hok hat
    by_cases hlt : k < n
    ·obtain ⟨ad,x,rfl,hab,hx,hxw,hcell⟩ := HAT.out.at_ hlt
     have HX := Hd hx
     have HC := Hd hcell
     have HW := Hd hxw
     clear hx hcell hxw;obtain ⟨mb,hmb⟩ : ∃ b,ze8 x = b := ⟨_,rfl⟩;obtain ⟨tb,htb⟩ : ∃ b,zcE k x = b := ⟨_,rfl⟩;obtain ⟨tn,htn⟩ : ∃ b,zdE k x = b := ⟨_,rfl⟩;have HMB := Hd hmb
     have HTB := Hd htb
     have HTN := Hd htn
     clear hmb htb htn;have hinq : ∃ b,inB tn 0 ((n : Int) - 1) = b := ⟨_,rfl⟩;obtain ⟨ib,hib⟩ := hinq;have HIB := Hd hib
     clear hib;have hcs : mb = false ∨ (mb = true ∧ tb = false) ∨ (mb = true ∧ tb = true ∧ ib = false) ∨ (mb = true ∧ tb = true ∧ ib = true) := by cases mb <;> cases tb <;> cases ib <;> simp
     rcases hcs with rfl | ⟨rfl,rfl⟩ | ⟨rfl,rfl,rfl⟩ | ⟨rfl,rfl,rfl⟩
     all_goals
      go_wp2_with (first
       | (refine zae rfl 47 (.tmp 29) rfl (ad.add (k * 9)) rfl x.cells _ HC.out underlying47 rfl ziZ ?_)
       | (refine zag rfl 47 (.tmp 6) (.tmp 30) rfl _ x.cells (.agg x.cells.toArray) (by rfl) (by rfl) rfl ziZ (by rfl) x.one ?_
          intro w1 X1 L1 S1;have hg1 : wr.heap.size < w1.heap.size := by omega
          have hc1 : w1.cell? ⟨w.heap.size,1,none⟩ = some (.slice (some ad) n cap) := (L1.cell (p := ⟨w.heap.size,1,none⟩) hsz).trans hc0;have HAT1 := Hd (HAT.out.below (L1.mono (ztu hsz)))
          have HB1 := Hd (HB.out.trans (L1.mono (ztu hsz)))
          have HX1 := Hd X1
          clear X1 L1 S1)
       | (go_at_call 110
          refine (zp8 x _ HW.out).mono ?_;rintro e w2 ⟨rfl,hb⟩;rw [HMB.out];have hsz1 : w.heap.size < w1.heap.size := Nat.lt_trans hsz hg1;have hc2 : w2.cell? ⟨w.heap.size,1,none⟩ = some (.slice (some ad) n cap) := (hb.cell (p := ⟨w.heap.size,1,none⟩) hsz1).trans hc1;have HAT2 := Hd (HAT1.out.below (hb.mono (ztu hsz1)))
          have HB2 := Hd (HB1.out.trans (hb.mono (ztu hsz1)))
          have HX2 := Hd (HX1.out.below hb hg1)
          have hsz2 : w.heap.size < w2.heap.size := zty hsz1 hb.size;clear hb hc1 HAT1 HB1 HX1)
       | (refine zae rfl 47 (.tmp 6) rfl ⟨wr.heap.size,0,none⟩ rfl x.cells _ (by first | exact zak HX2.out | exact zak HX1.out) underlying47 rfl ziZ ?_)
       | (go_at_call 72
          refine (zcR k x _).mono ?_;rintro e w3 ⟨rfl,hb⟩;rw [HTB.out,HTN.out];have hc3 : w3.cell? ⟨w.heap.size,1,none⟩ = some (.slice (some ad) n cap) := (hb.cell (p := ⟨w.heap.size,1,none⟩) hsz2).trans hc2;have HAT3 := Hd (HAT2.out.below (hb.mono (ztu hsz2)))
          have HB3 := Hd (HB2.out.trans (hb.mono (ztu hsz2)))
          have hsz3 : w.heap.size < w3.heap.size := zty hsz2 hb.size;clear hb hc2 HAT2 HB2 HX2)
       | (go_at_call 109
          refine (zbd _ _ _ _).mono ?_;rintro e w' ⟨rfl,rfl⟩;rw [HIB.out]))
      first
       | (go_ret2
          have hbad : zdI n k x = false := by unfold zdI; rw [HMB.out]; first | rfl | (rw [HTB.out,HTN.out,HIB.out]; rfl)
          have hp := zjc (c := c) h1'.out h2'.out HX.out (by rw [hl.out]; exact HOK.out) (by rw [hl.out]; exact hbad);rw [HMB.out] at hp;exact ⟨by rw [hp]; rfl,by first | exact HB2.out | exact HB3.out⟩)
       | (have hgood : zdI n k x = true := by unfold zdI; rw [HMB.out]; first | (rw [HTB.out]; rfl) | (rw [HTB.out,HTN.out,HIB.out]; rfl)
          have HGD := Hd hgood
          clear hgood;go_roundw
          case measure => simp [intOf]; omega
          case rel =>
           refine ⟨k + 1,by omega,by go_num,fun j y hj hy => ?_,HAT3.out,hc3,HB3.out,hsz3⟩
           rcases ztH j k with h | h
           ·exact HOK.out j y h hy
           ·obtain rfl : j = k := by omega
            have := HX.out;rw [hy] at this;obtain rfl := Option.some.inj this;exact HGD.out)
    ·obtain rfl : k = n := by omega
     have hk1 : k - 1 < k := by omega
     obtain ⟨ad,x,rfl,hab,hx,hxw,hcell⟩ := HAT.out.at_ hk1;have hlast : zgw l = x.kind := by unfold zgw; rw [hl.out,hx]; rfl
     have hp := znx (c := c) h1'.out h2'.out (fun i y hy => by rw [hl.out]; exact HOK.out i y (by have := (ztt.1 hy).1; have := hl.out; omega) hy);rw [hlast,hl.out] at hp;have HP := Hd hp
     have hkc : wr.cell? (ad.add ((k - 1) * 9)) = some (.int .i8 x.kind) := by
      have := hcell 0 _ rfl
      simpa [za0] using this
     clear hcell hlast hp hx hxw hlt;generalize hki : x.kind = ki at hkc ⊢;rw [hki] at HP;clear hki
     cases h4 : (ki != 4)
     all_goals
      cases h6 : (ki != 6)
      all_goals
       go_wp2;go_ret2;refine ⟨?_,HB.out⟩;rw [HP.out];simp at h4 h6
       first
        | (rw [if_pos ⟨h4,h6⟩]; rfl)
        | (rw [if_neg (by simp [h4,h6])]; rfl)
end
section
def Rng (x : ID) : Prop := 0 ≤ x.dst ∧ x.dst ≤ 10 ∧ 0 ≤ x.src ∧ x.src ≤ 10 ∧ -32768 ≤ x.off ∧ x.off ≤ 32767 ∧ -2147483648 ≤ x.imm ∧ x.imm ≤ 2147483647
def zp9 (x : ID) : Prop :=
 (x.kind = 0 ∧ 0 ≤ x.op ∧ x.op ≤ 12 ∧ (x.width = 32 ∨ x.width = 64) ∧ x.dst < 10 ∧ x.size = 0 ∧ x.off = 0 ∧ ((x.byReg = true ∧ x.op ≠ 8 ∧ x.imm = 0) ∨ (x.byReg = false ∧ x.src = 0 ∧ (x.op = 8 → x.imm = 0))))
 ∨ (x.kind = 1 ∧ (x.size = 1 ∨ x.size = 2 ∨ x.size = 4 ∨ x.size = 8) ∧ x.dst < 10 ∧ x.op = 0 ∧ x.width = 0 ∧ x.byReg = false ∧ x.imm = 0)
 ∨ (x.kind = 2 ∧ (x.size = 1 ∨ x.size = 2 ∨ x.size = 4 ∨ x.size = 8) ∧ x.op = 0 ∧ x.width = 0 ∧ x.byReg = false ∧ x.imm = 0)
 ∨ (x.kind = 3 ∧ 0 ≤ x.op ∧ x.op ≤ 10 ∧ x.width = 0 ∧ x.size = 0 ∧ ((x.byReg = true ∧ x.imm = 0) ∨ (x.byReg = false ∧ x.src = 0)))
 ∨ (x.kind = 4 ∧ x.op = 0 ∧ x.width = 0 ∧ x.size = 0 ∧ x.byReg = false ∧ x.dst = 0 ∧ x.src = 0 ∧ x.imm = 0)
 ∨ (x.kind = 5 ∧ x.op = 0 ∧ x.width = 0 ∧ x.size = 0 ∧ x.byReg = false ∧ x.dst = 0 ∧ x.src = 0 ∧ x.off = 0 ∧ 0 ≤ x.imm ∧ x.imm ≤ 15)
 ∨ (x.kind = 6 ∧ x.op = 0 ∧ x.width = 0 ∧ x.size = 0 ∧ x.byReg = false ∧ x.dst = 0 ∧ x.src = 0 ∧ x.off = 0 ∧ x.imm = 0)
theorem zqa (x : ID) : zq7 x = true ↔ Rng x := by
 unfold zq7 Rng;simp only [ztr,zbm];omega
theorem zn2 (x : ID) : (zcK x && eqL (zdh x).cells (kz x.kind).cells) = true ↔ zp9 x := by
 obtain ⟨k,op,wd,sz,br,dst,src,off,imm⟩ := x;unfold zp9 zcK zdh znd kz ID.cells;dsimp only
 by_cases h0 : k = 0
 ·subst h0
  cases br <;> simp [eqL,eqV,inB] <;> omega
 by_cases h1 : k = 1
 ·subst h1
  cases br <;> simp [eqL,eqV,inB,szB] <;> omega
 by_cases h2 : k = 2
 ·subst h2
  cases br <;> simp [eqL,eqV,inB,szB] <;> omega
 by_cases h3 : k = 3
 ·subst h3
  cases br <;> simp [eqL,eqV,inB] <;> omega
 by_cases h4 : k = 4
 ·subst h4
  cases br <;> simp [eqL,eqV,inB] <;> omega
 by_cases h5 : k = 5
 ·subst h5
  cases br <;> simp [eqL,eqV,inB] <;> omega
 by_cases h6 : k = 6
 ·subst h6
  cases br <;> simp [eqL,eqV,inB] <;> omega
 ·simp [h0,h1,h2,h3,h4,h5,h6]
theorem zlK (x : ID) : ze8 x = true ↔ Rng x ∧ zp9 x := by
 unfold ze8;rw [ztr,zqa,zn2]
theorem zlL {x y : ID}(hx : x.wf)(hy : y.wf) : eqL x.cells y.cells = true ↔ x = y := by
 rw [zi0 zc5 _ _ (ID.all hx) (ID.all hy)];exact ⟨ID.cells_inj,fun h => by rw [h]⟩
end
end Go.Proofs.YtepagfkkjlbipaaGreat
