/-
  Parts of the proof of SymbcRuns. Conditions: those written in each statement.
-/
import Derived.Test.YtepagfkkjlbipaaGreatKar
set_option linter.unusedVariables false
set_option linter.unusedSimpArgs false
set_option maxHeartbeats 64000000
set_option maxRecDepth 100000
namespace Go.Proofs.YtepagfkkjlbipaaGreat
open Go.RowKit
open Tryz
section
theorem zlM (T : List TD)(n : Int) : okP T (zaf n) = true := by
 unfold okP okF zcl zay zaI zax zaf;simp
theorem zn3 {p : PS}{w a : Int}(hw : Wd4 w)(h64 : w ≠ 64)(ha : zal p.T a = true) : okP p.T (zgd w a) = true := by
 unfold okP okF zcl zay zaI zax zgd;simp [ha];unfold wdB
 rcases hw with rfl | rfl | rfl | rfl <;> simp at *
theorem zkr {p : PS}(hw : WfP p)(w a : Int) : ∃ r,ze3 (a.toNat + 1) p w a = some r := by
 unfold ze3
 split
 ·exact ⟨_,rfl⟩
 ·exact zd2 hw w _ a (by omega)
theorem zks {p : PS}(hw : WfP p)(hr : ∀ t ∈ p.T,t.wf){f : Nat}{w a : Int}{r : RS}(hx : I8 w)(h : ze3 f p w a = some r) : zck p r := by
 unfold ze3 at h
 split at h
 ·injection h with h; subst h; exact zck.err hw hr 0 (by decide)
 ·rename_i hz
  have hz : zal p.T a = true ∧ wdB w = true := by simpa using hz
  exact zdM f hw hr hx hz.1 h
theorem zhJ {p : PS}{f : Nat}{w a : Int}{r : RS}(ha : zal p.T a = true)(hw : wdB w = true)(h : ze3 f p w a = some r) : zbw f p w a = some r := by
 unfold ze3 at h;rw [if_neg (by rw [ha,hw]; simp)] at h;exact h
end
section
theorem zdy {p : PS}(hw : WfP p){n k : Int}(hn : zal p.T n = true)(hk : k ∈ zax (atP p.T n)) : zal p.T k = true := by
 have h := zcD hw hn hk;unfold zal at *;simp at hn ⊢;omega
theorem zgE {p q : PS}(hq : WfP q){t : TD}(h : (putR p t).2.2 = 0)(he : Ext (putR p t).1 q) : putR q t = (q,(putR p t).2.1,0) := by
 have := zl8 hq (p := p) (t := t) h he;unfold putR;rw [this.1,this.2]
theorem zcN {p q : PS}(hq : WfP q){x a : Int}(h0 : (zah p x a).2.2 = 0)(ha : zal p.T a = true)(hpq : Ext p q)(he : Ext (zah p x a).1 q) : zah q x a = (q,(zah p x a).2.1,0) := by
 have ea := hpq.at_ ha;unfold zah at h0 he ⊢;dsimp only at h0 he ⊢;rw [ea]
 by_cases h1 : (atP p.T a).kind = 0
 ·rw [if_pos h1] at h0 he ⊢
  rw [if_pos h1];exact zgE hq h0 he
 ·rw [if_neg h1] at h0 he ⊢
  rw [if_neg h1]
  by_cases h2 : x = 32 ∧ (atP p.T a).kind = 3 ∧ (atP p.T a).w = 32
  ·rw [if_pos h2,if_pos h2]
  ·rw [if_neg h2,if_neg h2]
theorem zkt {p q : PS}(hw : WfP p)(hq : WfP q){x a b : Int}(h0 : (zaj p x a b).2.2.2 = 0)(ha : zal p.T a = true)(hb : zal p.T b = true)(hpq : Ext p q)(he : Ext (zaj p x a b).1 q) : zaj q x a b = (q,(zaj p x a b).2.1,(zaj p x a b).2.2.1,0) := by
 unfold zaj at h0 he ⊢;dsimp only at h0 he ⊢
 by_cases h1 : (zah p x a).2.2 = 0
 ·rw [if_pos h1] at h0 he ⊢
  dsimp only at h0 he ⊢;have e1 := zaT p x a;have e2 := zaT (zah p x a).1 x b;have o1 := zcN hq h1 ha hpq (e2.trans he);have o2 := zcN hq h0 (e1.has hb) (e2.trans he) he;rw [o1];dsimp only;rw [if_pos rfl,o2]
 ·rw [if_neg h1] at h0
  exact absurd h0 h1
end
section
theorem zn4 {a b c : Bool}(h : a = true → b = c) : (a && b) = (a && c) := by
 cases a
 ·rfl
 ·rw [h rfl]
end
section
def E0 (r : RS) : Prop := r.2.2 = 0 ∨ r.2.2 = 260
theorem zro {p : PS}{op x a b : Int}(h : zdp op x = true)(ha : zal p.T a = true)(hb : zal p.T b = true) : okP p.T (opT op x a b) = true := by
 have hd := zbE h;unfold okP okF zcl zay zaI zax opT;simp [ha,hb];omega
theorem zn5 {p : PS}{cc x a b : Int}(h : zaW cc x = true)(ha : zal p.T a = true)(hb : zal p.T b = true) : okP p.T (zht cc x a b) = true := by
 have hd := za7 h;unfold okP okF zcl zay zaI zax zht;simp [ha,hb];omega
end
section
theorem zgF (a b : Int) : bits .and .u64 a b = bits .and .u64 b a := by unfold bits; dsimp only; rw [BitVec.and_comm]
theorem zlN (a b : Int) : bits .or .u64 a b = bits .or .u64 b a := by unfold bits; dsimp only; rw [BitVec.or_comm]
theorem zku (a b : Int) : bits .xor .u64 a b = bits .xor .u64 b a := by unfold bits; dsimp only; rw [BitVec.xor_comm]
theorem zfO {op : Int}(h : zaK op = true) : op = 0 ∨ op = 2 ∨ op = 4 ∨ op = 5 ∨ op = 10 := by unfold zaK at h; simp at h; exact h
theorem zn6 {op : Int}(h : zaK op = true)(x a b : Int) : doU op x a b = doU op x b a := by
 unfold doU doV
 rcases zfO h with rfl | rfl | rfl | rfl | rfl
 ·simp only [if_pos]; rw [Int.add_comm]
 ·rw [if_neg (by decide),if_neg (by decide),if_pos rfl,if_neg (by decide),if_neg (by decide),if_pos rfl,Int.mul_comm]
 ·rw [if_neg (by decide),if_neg (by decide),if_neg (by decide),if_neg (by decide),if_pos rfl,if_neg (by decide),if_neg (by decide),if_neg (by decide),if_neg (by decide),if_pos rfl,zlN]
 ·rw [if_neg (by decide),if_neg (by decide),if_neg (by decide),if_neg (by decide),if_neg (by decide),if_pos rfl,if_neg (by decide),if_neg (by decide),if_neg (by decide),if_neg (by decide),if_neg (by decide),if_pos rfl,zgF]
 ·rw [if_neg (by decide),if_neg (by decide),if_neg (by decide),if_neg (by decide),if_neg (by decide),if_neg (by decide),if_neg (by decide),if_neg (by decide),if_neg (by decide),if_neg (by decide),if_pos rfl,if_neg (by decide),if_neg (by decide),if_neg (by decide),if_neg (by decide),if_neg (by decide),if_neg (by decide),if_neg (by decide),if_neg (by decide),if_neg (by decide),if_neg (by decide),if_pos rfl,zku]
theorem zpr (a b : Int) : (zcw a b == 0) = (zcw b a == 0) := by
 unfold zcw
 by_cases h1 : a < b
 ·rw [if_pos h1,if_neg (show ¬ b < a by omega),if_pos h1]; decide
 ·rw [if_neg h1]
  by_cases h2 : b < a
  ·rw [if_pos h2,if_pos h2]; decide
  ·rw [if_neg h2,if_neg h2,if_neg h1]
theorem zkv {cc : Int}(h : cc = 0 ∨ cc = 1 ∨ cc = 10)(x a b : Int) : zaJ cc x a b = zaJ cc x b a := by
 unfold zaJ
 rcases h with rfl | rfl | rfl
 ·simp
  have := zpr (zao x a) (zao x b);revert this
  cases h1 : (zcw (zao x a) (zao x b) == 0) <;> cases h2 : (zcw (zao x b) (zao x a) == 0) <;> simp_all
 ·simp
  have := zpr (zao x a) (zao x b);unfold bne;rw [this]
 ·simp only [if_pos]
  rw [zgF]
def NZ (p : PS) : Prop := ∀ n : Int,zal p.T n = true → (atP p.T n).kind = 3 → (atP p.T (atP p.T n).a).kind ≠ 0 ∧ (atP p.T (atP p.T n).a).kind ≠ 3
def Al (q : PS)(t : TD) : Prop := t.kind ≠ 3 ∨ ∃ w a,t = zgd w a ∧ zal q.T a = true ∧ (atP q.T a).kind ≠ 0 ∧ (atP q.T a).kind ≠ 3
theorem NZ.put {p : PS}(h : NZ p)(hw : WfP p){t : TD}(ht : Al p t) : NZ (zcm p t) := by
 intro n hn hk
 rcases za8 p t with ⟨e,_⟩ | ⟨hok,_,_,_,e,_⟩
 ·rw [e] at hn hk ⊢; exact h n hn hk
 ·have he : Ext p (zcm p t) := Ext.put p t
  cases hb : zal p.T n
  ·-- the new one
   have hn2 : n = (p.T.length : Int) := by
    rw [e] at hn;unfold zal at hn hb;simp at hn hb;omega
   have hat : atP (zcm p t).T n = t := by
    unfold atP;rw [if_pos hn,e,hn2];simp
   rw [hat] at hk ⊢
   rcases ht with ht | ⟨w,a,rfl,ha,k0,k3⟩
   ·exact absurd hk ht
   ·show (atP (zcm p (zgd w a)).T a).kind ≠ 0 ∧ (atP (zcm p (zgd w a)).T a).kind ≠ 3
    rw [he.at_ ha];exact ⟨k0,k3⟩
  ·rw [he.at_ hb] at hk ⊢
   rw [he.at_ (zch hw hb hk).2.2];exact h n hb hk
theorem NZ.bind {p : PS}{r s : RS}{k : PS → Int → Option RS}(h : NZ r.1)(hk : r.2.2 = 0 → ∀ s,k r.1 r.2.1 = some s → NZ s.1)(hs : zbA r k = some s) : NZ s.1 := by
 unfold zbA at hs
 split at hs
 ·rename_i h0; exact hk h0 s hs
 ·injection hs with hs; subst hs; exact h
theorem NZ.putR {p : PS}(h : NZ p)(hw : WfP p){t : TD}(ht : t.kind ≠ 3) : NZ (putR p t).1 := h.put hw (.inl ht)
theorem zfP : ∀ (f : Nat) {p : PS} (hz : NZ p) (hw : WfP p) {x a : Int} {r : RS} (ha : zal p.T a = true),zbw f p x a = some r → NZ r.1
 | 0,_,_,_,_,_,_,_,h => by cases h
 | f + 1,p,hz,hw,x,a,r,ha,h => by
  rw [zbz] at h
  split at h
  ·injection h with h; subst h; exact hz
  split at h
  ·injection h with h; subst h; exact hz.putR hw (by show (0 : Int) ≠ 3; decide)
  rename_i k0
  split at h
  ·injection h with h; subst h; exact hz
  split at h
  ·rename_i h3; exact zfP f hz hw (zch hw ha h3).2.2 h
  ·rename_i k3
   injection h with h; subst h
   exact hz.put hw (.inr ⟨x,a,rfl,ha,k0,k3⟩)
theorem zeR {p : PS}(hz : NZ p)(hw : WfP p)(x a : Int) : NZ (zah p x a).1 := by
 rcases zbe p x a with ⟨_,e⟩ | ⟨_,e⟩ | ⟨_,e⟩
 ·rw [e]; exact hz.putR hw (by show (0 : Int) ≠ 3; decide)
 ·rw [e]; exact hz
 ·rw [e]; exact hz
theorem zeS {p : PS}(hz : NZ p)(hw : WfP p)(hr : ∀ t ∈ p.T,t.wf){a b : Int}(ha : I64 a)(x : Int) : NZ (zaj p x a b).1 := by
 have h1 := zeR hz hw x a;have h2 := (zbq hw hr ha x).2.1;unfold zaj;dsimp only
 split
 ·exact zeR h1 h2 x b
 ·exact h1
theorem zkw : ∀ (f : Nat) {p : PS} (hz : NZ p) (hw : WfP p) (hr : ∀ t ∈ p.T,t.wf) {op x a b : Int} {r : RS},opF f p op x a b = some r → NZ r.1
 | 0,_,_,_,_,_,_,_,_,_,h => by cases h
 | f + 1,p,hz,hw,hr,op,x,a,b,r,h => by
  rw [zbu] at h
  split at h
  ·injection h with h; subst h; exact hz
  rename_i hab;have hab : zal p.T a = true ∧ zal p.T b = true := by simpa using hab
  split at h
  ·injection h with h; subst h; exact hz
  have hw2 := zbK hw hr (zap hw hab.1) (zap hw hab.2) x;have hz2 := zeS (b := b) hz hw hr (zap hw hab.1) x
  split at h
  ·rename_i h0
   have hf := zbb hw hr hab.1 hab.2 h0;generalize zaj p x a b = z at h hw2 hf hz2;obtain ⟨p1,a1,b1,e1⟩ := z;dsimp only at h hw2 hf hz2;have hc : ∀ {n : Int},U64 n → zck p1 (putR p1 (zaf n)) := fun hn => zck.put hw2.1 hw2.2 (zaP hn)
   have hn : ∀ n : Int,NZ (putR p1 (zaf n)).1 := fun n => hz2.putR hw2.1 (by show (0 : Int) ≠ 3; decide)
   unfold opL at h;dsimp only at h
   split at h
   ·injection h with h; subst h; exact hn _
   split at h
   ·exact NZ.bind (p := p1) (hn 0) (fun _ s hs => zkw f (hn 0) (hc zaA).wf (hc zaA).rng hs) h
   split at h
   ·exact zfP f hz2 hw2.1 hf.2.1 h
   split at h
   ·have hu : U64 (zao x (IntKind.u64.wrap (-(atP p1.T b1).n))) := zau (wrap_u64 _)
    exact NZ.bind (p := p1) (hn _) (fun _ s hs => zkw f (hn _) (hc hu).wf (hc hu).rng hs) h
   split at h
   ·exact zkw f hz2 hw2.1 hw2.2 h
   split at h
   ·have hu : U64 (zao x (IntKind.u64.wrap ((atP p1.T (atP p1.T a1).b).n + (atP p1.T b1).n))) := zau (wrap_u64 _)
    exact NZ.bind (p := p1) (hn _) (fun _ s hs => zkw f (hn _) (hc hu).wf (hc hu).rng hs) h
   split at h
   ·exact zfP f hz2 hw2.1 hf.1 h
   split at h
   ·injection h with h; subst h; exact hn _
   split at h
   ·injection h with h; subst h; exact hn _
   split at h
   ·exact zfP f hz2 hw2.1 hf.1 h
   ·injection h with h; subst h; exact hz2.putR hw2.1 (by show (2 : Int) ≠ 3; decide)
  ·injection h with h; subst h; exact hz2
theorem zlO : ∀ (f : Nat) {p : PS} (hz : NZ p) (hw : WfP p) (hr : ∀ t ∈ p.T,t.wf) {cc x a b : Int} {r : RS},zdg f p cc x a b = some r → NZ r.1
 | 0,_,_,_,_,_,_,_,_,_,h => by cases h
 | f + 1,p,hz,hw,hr,cc,x,a,b,r,h => by
  rw [zby] at h
  split at h
  ·injection h with h; subst h; exact hz
  rename_i hab;have hab : zal p.T a = true ∧ zal p.T b = true := by simpa using hab
  split at h
  ·injection h with h; subst h; exact hz
  have hw2 := zbK hw hr (zap hw hab.1) (zap hw hab.2) x;have hz2 := zeS (b := b) hz hw hr (zap hw hab.1) x
  split at h
  ·unfold zeh at h
   dsimp only at h
   split at h
   ·injection h with h; subst h; exact hz2.putR hw2.1 (by show (0 : Int) ≠ 3; decide)
   split at h
   ·injection h with h; subst h; exact hz2.putR hw2.1 (by show (0 : Int) ≠ 3; decide)
   split at h
   ·exact zlO f hz2 hw2.1 hw2.2 h
   split at h
   ·injection h with h; subst h; exact hz2.putR hw2.1 (by show (4 : Int) ≠ 3; decide)
   ·injection h with h; subst h; exact hz2.putR hw2.1 (by show (4 : Int) ≠ 3; decide)
  ·injection h with h; subst h; exact hz2
end
section
def zsu (base g f : Nat) : Prop := ∀ (op x a b : Int) (F : Nat → Prop) (p : PS) (r : RS) (hO : opF f p op x a b = some r) (W : World) (h : zaO W base F g p) (hbase : base ≤ W.heap.size),
 Calls prog 84 #[.pointer (some ⟨g,0,none⟩),.int .i8 op,.int .i8 x,.int .i64 a,.int .i64 b] W (zc7 base g F W r)
def byF (f : Nat)(p : PS)(op x a : Int)(s : TD)(d : Int) : Option (Option RS) :=
 if zb5 p.T s op x true = true then (zbA (putR p (zaf (zao x (IntKind.u64.wrap ((atP p.T s.b).n + d))))) fun q z => opF f q 0 x s.a z).map some
 else if zaB op x d = true then (zbw f p x a).map some
 else if ziu op d = true then some (some (putR p (zaf 0)))
 else some none
def RetB (base g : Nat)(F : Nat → Prop)(w : World)(p : PS)(q : Option RS)(e : Ending)(w' : World) : Prop :=
 match q with
 | none => e = .returned (.tuple #[.int .i64 0,.bool false,.int .i64 0]) ∧ ∃ F',RG base g F w F' p w'
 | some r => e = .returned (.tuple #[.int .i64 r.2.1,.bool true,.int .i64 r.2.2]) ∧ ∃ F',RG base g F w F' r.1 w'
theorem ziD : U64 18446744073709551615 := by unfold U64; omega
theorem zfQ (n : Int) : U64 (IntKind.u64.wrap n) := by unfold U64; rw [IntKind.wrap_u64]; omega
section
variable {base g f : Nat}
theorem zn7 (hIH : zsu base g f)(op x a : Int)(s : TD)(d : Int)(hd : U64 d)(hs : s.wf)(F : Nat → Prop)(p : PS)(r : RS)(W : World)(h : zaO W base F g p)(hbase : base ≤ W.heap.size)(hA : zb5 p.T s op x true = true)
  (hr : (zbA (putR p (zaf (zao x (IntKind.u64.wrap ((atP p.T s.b).n + d))))) fun q z => opF f q 0 x s.a z) = some r) :
  Calls prog 143 #[.pointer (some ⟨g,0,none⟩),.int .i8 op,.int .i8 x,.int .i64 a,zaw s,.int .u64 d] W fun e w' => e = .returned (.tuple #[.int .i64 r.2.1,.bool true,.int .i64 r.2.2]) ∧ ∃ F',RG base g F W F' r.1 w' := by
 unfold zb5 at hA;simp only [ztr,beq_iff_eq,ztG] at hA;obtain ⟨rfl,hk,q1,q2,q3⟩ := hA;obtain ⟨t,ht⟩ : ∃ t,atP p.T s.b = t := ⟨_,rfl⟩;rw [ht] at hk hr;rw [Int.add_comm] at hr;have HIH := Hd hIH
 have HT := Hd ht
 have HK := Hd hk
 have HD := Hd hd
 have HR := Hd hr
 have HU := Hd (zau (x := x) (zfQ (d + t.n)))
 have HP := Hd (RG.of_below h (zav W (.cells s.cells.toArray 147)))
 have HZ := Hd (Blk.new W 147 s.cells.toArray)
 have k1 : (s.kind == 2) = true := by simpa using q1
 have k2 : (s.op == 0) = true := by simpa using q2
 have k3 : (s.w == x) = true := by simpa using q3
 have k4 : (t.kind == 0) = true := by simpa using hk
 have hw0 := zav W (.cells s.cells.toArray 147);have HNF := Hd (fun q => by have := (h.fb _ q).2; omega : ¬ F W.heap.size)
 have hbw := zto hbase hw0.size;clear h hr ht hk hd hIH hs hw0 q1 q2 q3;unfold zaw;go_enter func143,ntmps143;go_upto_region 1 with fail
 generalize W.alloc (.cells s.cells.toArray 147) = w1 at HP HZ hbw ⊢;obtain ⟨bs,hbs⟩ : ∃ b,W.heap.size = b := ⟨_,rfl⟩;rw [hbs] at HZ HNF ⊢;clear hbs;have c0 := HZ.out.cell 0;have c1 := HZ.out.cell 1;have c2 := HZ.out.cell 2;have c5 := HZ.out.cell 5;simp [TD.cells] at c0 c1 c2 c5;go_wp2_with fail
 refine (zia s.b _ HP.out.pool).mono ?_;rintro e w2 ⟨rfl,hb⟩;have HP1 := Hd (HP.out.step hb)
 have HZ1 := Hd (HZ.out.below hb HZ.out.lt)
 rw [HT.out];clear hb HP HZ c0 c1 c2 c5;go_upto_region 3 with (first
  | (refine zag rfl 147 (.tmp 15) (.tmp 45) rfl _ t.cells (zaw t) (by rfl) (by rfl) rfl zcL rfl (TD.one _) ?_
     intro w5 G5 L5 Z5;have HX := Hd G5
     have HP2 := Hd (HP1.out.step L5)
     have HZ2 := Hd (HZ1.out.below L5 HZ1.out.lt)
     clear G5 L5 Z5)
  | fail)
 obtain ⟨b8,hb8⟩ : ∃ b,w2.heap.size = b := ⟨_,rfl⟩;rw [hb8] at HX ⊢;clear HP1 HZ1 hb8;have b0 := HX.out.cell 0;have b3 := HX.out.cell 3;simp [TD.cells] at b0 b3;have hb5 : base ≤ w5.heap.size := zto hbase HP2.out.size;go_wp2_with fail
 refine (zaH _ _ (zfQ _) _).mono ?_;rintro e w6 ⟨rfl,rfl⟩;go_wp2_with fail
 refine (zbZ _ HU.out _ HP2.out.pool hb5).mono ?_;rintro e w7 ⟨rfl,F1,hp⟩;obtain ⟨q,hq⟩ : ∃ q,putR p (zaf (zao x (IntKind.u64.wrap (d + t.n)))) = q := ⟨_,rfl⟩;rw [hq] at HR hp ⊢;have HP3 := Hd (HP2.out.trans hp)
 have HZ3 := Hd (hp.blk HZ2.out HNF.out)
 obtain ⟨p1,n1,e1⟩ := q;clear hp hq HP2 HZ2 b0 b3;dsimp only at HR HP3 ⊢;have HR' : Hid ((if e1 = 0 then opF f p1 0 x s.a n1 else some (p1,0,e1)) = some r) := Hd (by have := HR.out; unfold zbA at this; exact this)
 have hb7 : base ≤ w7.heap.size := zto hbase HP3.out.size;have c4 := HZ3.out.1.cell 4;simp [TD.cells] at c4
 cases he : (e1 == 0)
 ·have hr2 := HR'.out
  rw [if_neg (by simpa using he)] at hr2;injection hr2 with hr2
  subst hr2;go_wp2;exact bodyPost_ret (v := .tuple #[.int .i64 0,.bool true,.int .i64 e1]) (by simp [results,results143,go_sem]) rfl ⟨rfl,_,HP3.out⟩
 ·have hr2 := HR'.out
  rw [if_pos (by simpa using he)] at hr2;have HR2 := Hd hr2
  clear hr2;go_wp2_with fail
  refine (HIH.out 0 x s.a n1 _ p1 r HR2.out _ HP3.out.pool hb7).mono ?_;rintro e w8 ⟨rfl,F2,hp2⟩;have HP4 := Hd (HP3.out.trans hp2)
  clear hp2;obtain ⟨p2,n2,e2⟩ := r;dsimp only at HP4 ⊢;go_wp2;exact bodyPost_ret (v := .tuple #[.int .i64 n2,.bool true,.int .i64 e2]) (by simp [results,results143,go_sem]) rfl ⟨rfl,_,HP4.out⟩
end
end
section
section
variable {base g f : Nat}
theorem zqb (op x a : Int)(s : TD)(d : Int)(hd : U64 d)(hs : s.wf)(hop : 0 ≤ op ∧ op ≤ 12)(hx : x = 32 ∨ x = 64)(F : Nat → Prop)(p : PS)(q : Option RS)(W : World)(h : zaO W base F g p)(hbase : base ≤ W.heap.size)(hA : zb5 p.T s op x true = false)(ha : zal p.T a = true)
  (hq : (if zaB op x d = true then (zbw f p x a).map some else if ziu op d = true then some (some (putR p (zaf 0))) else some none) = some q) :
  Calls prog 143 #[.pointer (some ⟨g,0,none⟩),.int .i8 op,.int .i8 x,.int .i64 a,zaw s,.int .u64 d] W (RetB base g F W p q) := by
 obtain ⟨t,ht⟩ : ∃ t,atP p.T s.b = t := ⟨_,rfl⟩;have HAS := Hd (show (op == 0 && ((t.kind == 0) && (s.kind == 2 && (s.op == 0 && s.w == x)))) = false by have := hA; unfold zb5 at this; rw [ht] at this; simpa using this)
 have HT := Hd ht
 have HQ := Hd hq
 have HD := Hd hd
 have HXW := Hd hx
 have HOP := Hd hop
 have HHA := Hd ha
 have HP := Hd (RG.of_below h (zav W (.cells s.cells.toArray 147)))
 have HZ := Hd (Blk.new W 147 s.cells.toArray)
 have HNF := Hd (fun q => by have := (h.fb _ q).2; omega : ¬ F W.heap.size)
 have hbw := zto hbase (zav W (.cells s.cells.toArray 147)).size;clear h ht hq hd hs hA hop hx ha;unfold zaw;go_enter func143,ntmps143;go_upto_region 1 with fail
 generalize W.alloc (.cells s.cells.toArray 147) = w1 at HP HZ hbw ⊢;obtain ⟨bs,hbs⟩ : ∃ b,W.heap.size = b := ⟨_,rfl⟩;rw [hbs] at HZ HNF ⊢;clear hbs;have c0 := HZ.out.cell 0;have c1 := HZ.out.cell 1;have c2 := HZ.out.cell 2;have c5 := HZ.out.cell 5;simp [TD.cells] at c0 c1 c2 c5;have HAS2 := Hd (show ((op == 0 && (s.kind == 2 && (s.op == 0 && s.w == x))) && (t.kind == 0)) = false by
  have := HAS.out
  cases q1 : (op == 0) <;> cases q2 : (s.kind == 2) <;> cases q3 : (s.op == 0) <;> cases q4 : (s.w == x) <;> cases q5 : (t.kind == 0) <;> simp_all)
 go_cut [41] from 24 to 41 (fun v wc => v = .bool (op == 0 && (s.kind == 2 && (s.op == 0 && s.w == x))) ∧ wc = w1)
 case first =>
  as_aux_lemma =>
   cases h0 : (op == 0)
   ·go_wp2
    go_meet
    case rel => exact ⟨by simp [h0],rfl⟩
   cases h1 : (s.kind == 2)
   ·go_wp2
    go_meet
    case rel => exact ⟨by simp [h0,h1],rfl⟩
   cases h2 : (s.op == 0)
   ·go_wp2
    go_meet
    case rel => exact ⟨by simp [h0,h1,h2],rfl⟩
   cases h3 : (s.w == x)
   all_goals
    go_wp2;go_meet
    case rel => exact ⟨by simp [h0,h1,h2,h3],rfl⟩
 case rest =>
 obtain ⟨rfl,rfl⟩ := hcut;obtain ⟨bb,hbb⟩ : ∃ b,(op == 0 && (s.kind == 2 && (s.op == 0 && s.w == x))) = b := ⟨_,rfl⟩;rw [hbb] at HAS2;rw [hbb];clear hbb;go_upto_if 41 with fail
 go_cut [] from 42 to 73 (fun wc => RG base g F W F p wc)
 case first =>
  as_aux_lemma =>
   cases bb
   ·go_wp2
    go_meet
    case rel => exact HP.out
   have h4 : (t.kind == 0) = false := by simpa using HAS2.out
   go_wp2_with fail
   refine (zia s.b _ HP.out.pool).mono ?_;rintro e w2 ⟨rfl,hb⟩;have HP1 := Hd (HP.out.step hb)
   rw [HT.out];clear hb HP HZ c0 c1 c2 c5;go_upto_region 3 with (first
    | (refine zag rfl 147 (.tmp 15) (.tmp 45) rfl _ t.cells (zaw t) (by rfl) (by rfl) rfl zcL rfl (TD.one _) ?_
       intro w5 G5 L5 Z5;have HX := Hd G5
       have HP2 := Hd (HP1.out.step L5)
       clear G5 L5 Z5)
    | fail)
   have b0 := HX.out.cell 0;simp [TD.cells] at b0;go_wp2;go_meet
   case rel => exact HP2.out
 case rest =>
  have HP5 := Hd hcut
  clear hcut HP HZ HNF hbw c0 c1 c2 c5 HAS HAS2 HT;have hbc : base ≤ wc.heap.size := zto hbase HP5.out.size;go_upto_region 9 with fail
  go_cut [18] from 74 to 83 (fun v wd => v = .bool (zai op) ∧ wd = wc)
  case first =>
   as_aux_lemma =>
    cases h6 : (op == 6);rotate_left
    ·go_wp2
     go_meet
     case rel => exact ⟨by unfold zai; simp [h6],rfl⟩
    cases h7 : (op == 7);rotate_left
    ·go_wp2
     go_meet
     case rel => exact ⟨by unfold zai; simp [h7],rfl⟩
    cases h12 : (op == 12)
    all_goals
     go_wp2;go_meet
     case rel => exact ⟨by unfold zai; simp [h6,h7,h12],rfl⟩
  case rest =>
   obtain ⟨rfl,rfl⟩ := hcut;go_upto_region 10 with fail
   go_cut [19] from 84 to 134 (fun v wd => v = .bool (zaB op x d) ∧ wd = wc)
   case first =>
    as_aux_lemma =>
     have hops : op = 0 ∨ op = 1 ∨ op = 2 ∨ op = 3 ∨ op = 4 ∨ op = 5 ∨ op = 6 ∨ op = 7 ∨ op = 8 ∨ op = 9 ∨ op = 10 ∨ op = 11 ∨ op = 12 := by have := HOP.out; omega
     have hxw := HXW.out
     rcases hops with rfl | rfl | rfl | rfl | rfl | rfl | rfl | rfl | rfl | rfl | rfl | rfl | rfl
     ·clear hxw
      cases h0 : (d == 0)
      ·cases h1 : (d == 1)
       ·go_wp2
        go_meet
        case rel => exact ⟨by unfold zaB zai; simp [h0,h1],rfl⟩
       ·go_wp2
        go_meet
        case rel => exact ⟨by unfold zaB zai; simp [h0,h1],rfl⟩
      ·go_wp2
       go_meet
       case rel => exact ⟨by unfold zaB zai; simp [h0],rfl⟩
     ·clear hxw
      cases h0 : (d == 0)
      ·cases h1 : (d == 1)
       ·go_wp2
        go_meet
        case rel => exact ⟨by unfold zaB zai; simp [h0,h1],rfl⟩
       ·go_wp2
        go_meet
        case rel => exact ⟨by unfold zaB zai; simp [h0,h1],rfl⟩
      ·have h1 : (d == 1) = false := by
        have hd0 : d = 0 := by simpa using h0
        rw [hd0]
        rfl
       go_wp2;go_meet
       case rel => exact ⟨by unfold zaB zai; simp [h0,h1],rfl⟩
     ·clear hxw
      cases h0 : (d == 0)
      ·cases h1 : (d == 1)
       ·go_wp2
        go_meet
        case rel => exact ⟨by unfold zaB zai; simp [h0,h1],rfl⟩
       ·go_wp2
        go_meet
        case rel => exact ⟨by unfold zaB zai; simp [h0,h1],rfl⟩
      ·have h1 : (d == 1) = false := by
        have hd0 : d = 0 := by simpa using h0
        rw [hd0]
        rfl
       go_wp2;go_meet
       case rel => exact ⟨by unfold zaB zai; simp [h0,h1],rfl⟩
     ·clear hxw
      cases h0 : (d == 0)
      ·cases h1 : (d == 1)
       ·go_wp2
        go_meet
        case rel => exact ⟨by unfold zaB zai; simp [h0,h1],rfl⟩
       ·go_wp2
        go_meet
        case rel => exact ⟨by unfold zaB zai; simp [h0,h1],rfl⟩
      ·have h1 : (d == 1) = false := by
        have hd0 : d = 0 := by simpa using h0
        rw [hd0]
        rfl
       go_wp2;go_meet
       case rel => exact ⟨by unfold zaB zai; simp [h0,h1],rfl⟩
     ·clear hxw
      cases h0 : (d == 0)
      ·cases h1 : (d == 1)
       ·go_wp2
        go_meet
        case rel => exact ⟨by unfold zaB zai; simp [h0,h1],rfl⟩
       ·go_wp2
        go_meet
        case rel => exact ⟨by unfold zaB zai; simp [h0,h1],rfl⟩
      ·go_wp2
       go_meet
       case rel => exact ⟨by unfold zaB zai; simp [h0],rfl⟩
     ·clear hxw
      cases h0 : (d == 0)
      ·cases h1 : (d == 1)
       ·go_wp2_with fail
        refine (zaH _ _ ziD _).mono ?_;rintro e w7 ⟨rfl,rfl⟩
        cases hm : (d == zao x 18446744073709551615)
        ·go_wp2
         go_meet
         case rel => exact ⟨by unfold zaB zai; simp [h0,h1,hm],rfl⟩
        ·go_wp2
         go_meet
         case rel => exact ⟨by unfold zaB zai; simp [h0,h1,hm],rfl⟩
       ·go_wp2_with fail
        refine (zaH _ _ ziD _).mono ?_;rintro e w7 ⟨rfl,rfl⟩
        cases hm : (d == zao x 18446744073709551615)
        ·go_wp2
         go_meet
         case rel => exact ⟨by unfold zaB zai; simp [h0,h1,hm],rfl⟩
        ·go_wp2
         go_meet
         case rel => exact ⟨by unfold zaB zai; simp [h0,h1,hm],rfl⟩
      ·have h1 : (d == 1) = false := by
        have hd0 : d = 0 := by simpa using h0
        rw [hd0]
        rfl
       go_wp2_with fail
       refine (zaH _ _ ziD _).mono ?_;rintro e w7 ⟨rfl,rfl⟩
       cases hm : (d == zao x 18446744073709551615)
       ·go_wp2
        go_meet
        case rel => exact ⟨by unfold zaB zai; simp [h0,h1,hm],rfl⟩
       ·go_wp2
        go_meet
        case rel => exact ⟨by unfold zaB zai; simp [h0,h1,hm],rfl⟩
     ·rcases hxw with rfl | rfl
      ·cases h0 : (d == 0)
       ·cases hs : (bits .and .u64 d 31 == 0)
        ·cases h1 : (d == 1)
         ·go_wp2
          go_meet
          case rel => exact ⟨by unfold zaB zai; simp [h0,hs,h1],rfl⟩
         ·go_wp2
          go_meet
          case rel => exact ⟨by unfold zaB zai; simp [h0,hs,h1],rfl⟩
        ·go_wp2
         go_meet
         case rel => exact ⟨by unfold zaB zai; simp [h0,hs],rfl⟩
       ·have hs : (bits .and .u64 d 31 == 0) = true := by
         have hd0 : d = 0 := by simpa using h0
         rw [hd0]
         rfl
        go_wp2;go_meet
        case rel => exact ⟨by unfold zaB zai; simp [h0,hs],rfl⟩
      ·cases h0 : (d == 0)
       ·cases hs : (bits .and .u64 d 63 == 0)
        ·cases h1 : (d == 1)
         ·go_wp2
          go_meet
          case rel => exact ⟨by unfold zaB zai; simp [h0,hs,h1],rfl⟩
         ·go_wp2
          go_meet
          case rel => exact ⟨by unfold zaB zai; simp [h0,hs,h1],rfl⟩
        ·go_wp2
         go_meet
         case rel => exact ⟨by unfold zaB zai; simp [h0,hs],rfl⟩
       ·have hs : (bits .and .u64 d 63 == 0) = true := by
         have hd0 : d = 0 := by simpa using h0
         rw [hd0]
         rfl
        go_wp2;go_meet
        case rel => exact ⟨by unfold zaB zai; simp [h0,hs],rfl⟩
     ·rcases hxw with rfl | rfl
      ·cases h0 : (d == 0)
       ·cases hs : (bits .and .u64 d 31 == 0)
        ·cases h1 : (d == 1)
         ·go_wp2
          go_meet
          case rel => exact ⟨by unfold zaB zai; simp [h0,hs,h1],rfl⟩
         ·go_wp2
          go_meet
          case rel => exact ⟨by unfold zaB zai; simp [h0,hs,h1],rfl⟩
        ·go_wp2
         go_meet
         case rel => exact ⟨by unfold zaB zai; simp [h0,hs],rfl⟩
       ·have hs : (bits .and .u64 d 31 == 0) = true := by
         have hd0 : d = 0 := by simpa using h0
         rw [hd0]
         rfl
        go_wp2;go_meet
        case rel => exact ⟨by unfold zaB zai; simp [h0,hs],rfl⟩
      ·cases h0 : (d == 0)
       ·cases hs : (bits .and .u64 d 63 == 0)
        ·cases h1 : (d == 1)
         ·go_wp2
          go_meet
          case rel => exact ⟨by unfold zaB zai; simp [h0,hs,h1],rfl⟩
         ·go_wp2
          go_meet
          case rel => exact ⟨by unfold zaB zai; simp [h0,hs,h1],rfl⟩
        ·go_wp2
         go_meet
         case rel => exact ⟨by unfold zaB zai; simp [h0,hs],rfl⟩
       ·have hs : (bits .and .u64 d 63 == 0) = true := by
         have hd0 : d = 0 := by simpa using h0
         rw [hd0]
         rfl
        go_wp2;go_meet
        case rel => exact ⟨by unfold zaB zai; simp [h0,hs],rfl⟩
     ·clear hxw
      cases h0 : (d == 0)
      ·cases h1 : (d == 1)
       ·go_wp2
        go_meet
        case rel => exact ⟨by unfold zaB zai; simp [h0,h1],rfl⟩
       ·go_wp2
        go_meet
        case rel => exact ⟨by unfold zaB zai; simp [h0,h1],rfl⟩
      ·have h1 : (d == 1) = false := by
        have hd0 : d = 0 := by simpa using h0
        rw [hd0]
        rfl
       go_wp2;go_meet
       case rel => exact ⟨by unfold zaB zai; simp [h0,h1],rfl⟩
     ·clear hxw
      cases h0 : (d == 0)
      ·cases h1 : (d == 1)
       ·go_wp2
        go_meet
        case rel => exact ⟨by unfold zaB zai; simp [h0,h1],rfl⟩
       ·go_wp2
        go_meet
        case rel => exact ⟨by unfold zaB zai; simp [h0,h1],rfl⟩
      ·have h1 : (d == 1) = false := by
        have hd0 : d = 0 := by simpa using h0
        rw [hd0]
        rfl
       go_wp2;go_meet
       case rel => exact ⟨by unfold zaB zai; simp [h0,h1],rfl⟩
     ·clear hxw
      cases h0 : (d == 0)
      ·cases h1 : (d == 1)
       ·go_wp2
        go_meet
        case rel => exact ⟨by unfold zaB zai; simp [h0,h1],rfl⟩
       ·go_wp2
        go_meet
        case rel => exact ⟨by unfold zaB zai; simp [h0,h1],rfl⟩
      ·go_wp2
       go_meet
       case rel => exact ⟨by unfold zaB zai; simp [h0],rfl⟩
     ·clear hxw
      cases h0 : (d == 0)
      ·cases h1 : (d == 1)
       ·go_wp2
        go_meet
        case rel => exact ⟨by unfold zaB zai; simp [h0,h1],rfl⟩
       ·go_wp2
        go_meet
        case rel => exact ⟨by unfold zaB zai; simp [h0,h1],rfl⟩
      ·have h1 : (d == 1) = false := by
        have hd0 : d = 0 := by simpa using h0
        rw [hd0]
        rfl
       go_wp2;go_meet
       case rel => exact ⟨by unfold zaB zai; simp [h0,h1],rfl⟩
     ·rcases hxw with rfl | rfl
      ·cases h0 : (d == 0)
       ·cases hs : (bits .and .u64 d 31 == 0)
        ·cases h1 : (d == 1)
         ·go_wp2
          go_meet
          case rel => exact ⟨by unfold zaB zai; simp [h0,hs,h1],rfl⟩
         ·go_wp2
          go_meet
          case rel => exact ⟨by unfold zaB zai; simp [h0,hs,h1],rfl⟩
        ·go_wp2
         go_meet
         case rel => exact ⟨by unfold zaB zai; simp [h0,hs],rfl⟩
       ·have hs : (bits .and .u64 d 31 == 0) = true := by
         have hd0 : d = 0 := by simpa using h0
         rw [hd0]
         rfl
        go_wp2;go_meet
        case rel => exact ⟨by unfold zaB zai; simp [h0,hs],rfl⟩
      ·cases h0 : (d == 0)
       ·cases hs : (bits .and .u64 d 63 == 0)
        ·cases h1 : (d == 1)
         ·go_wp2
          go_meet
          case rel => exact ⟨by unfold zaB zai; simp [h0,hs,h1],rfl⟩
         ·go_wp2
          go_meet
          case rel => exact ⟨by unfold zaB zai; simp [h0,hs,h1],rfl⟩
        ·go_wp2
         go_meet
         case rel => exact ⟨by unfold zaB zai; simp [h0,hs],rfl⟩
       ·have hs : (bits .and .u64 d 63 == 0) = true := by
         have hd0 : d = 0 := by simpa using h0
         rw [hd0]
         rfl
        go_wp2;go_meet
        case rel => exact ⟨by unfold zaB zai; simp [h0,hs],rfl⟩
   case rest =>
    obtain ⟨rfl,rfl⟩ := hcut;obtain ⟨sb,hsb⟩ : ∃ v,zaB op x d = v := ⟨_,rfl⟩;obtain ⟨nb,hnb⟩ : ∃ v,ziu op d = v := ⟨_,rfl⟩;rw [hsb,hnb] at HQ;rw [hsb];have HNB := Hd hnb
    clear hsb hnb
    cases sb;rotate_left
    ·have hq := HQ.out
     rw [if_pos rfl,ztC] at hq;obtain ⟨r,hz,rfl⟩ := hq;have HZF := Hd hz
     clear hz;go_wp2_with fail
     refine (zb8 x (by have := HXW.out; unfold wdB; simp; omega) f a HHA.out _ r HZF.out _ HP5.out.pool hbc).mono ?_;rintro e w7 ⟨rfl,F1,hp⟩;have HP6 := Hd (HP5.out.trans hp)
     clear hp;obtain ⟨p1,n1,e1⟩ := r;dsimp only at HP6 ⊢;go_wp2;exact bodyPost_ret (v := .tuple #[.int .i64 n1,.bool true,.int .i64 e1]) (by simp [results,results143,go_sem]) rfl ⟨rfl,_,HP6.out⟩
    have hq := HQ.out;rw [if_neg (by simp)] at hq;have HQ2 := Hd hq
    clear hq
    cases nb;rotate_left
    ·have hq := HQ2.out
     rw [if_pos rfl] at hq;injection hq with hq
     subst hq;have hnb := HNB.out;unfold ziu at hnb;rw [ztr] at hnb;obtain ⟨hd0,hop3⟩ := hnb;have HOP3 := Hd hop3
     clear hop3
     cases h2 : (op == 2);rotate_left
     ·go_upto_region 15 with fail
      go_wp2_with fail
      refine (zbZ 0 (by unfold U64; omega) _ HP5.out.pool hbc).mono ?_;rintro e w7 ⟨rfl,F1,hp⟩;have HP6 := Hd (HP5.out.trans hp)
      clear hp;obtain ⟨q0,hq0⟩ : ∃ q,putR p (zaf 0) = q := ⟨_,rfl⟩;rw [hq0] at HP6 ⊢;obtain ⟨p1,n1,e1⟩ := q0;dsimp only at HP6 ⊢;go_wp2;exact bodyPost_ret (v := .tuple #[.int .i64 n1,.bool true,.int .i64 e1]) (by simp [results,results143,go_sem]) rfl (by rw [hq0]; exact ⟨rfl,_,HP6.out⟩)
     cases h5 : (op == 5);rotate_left
     ·go_upto_region 15 with fail
      go_wp2_with fail
      refine (zbZ 0 (by unfold U64; omega) _ HP5.out.pool hbc).mono ?_;rintro e w7 ⟨rfl,F1,hp⟩;have HP6 := Hd (HP5.out.trans hp)
      clear hp;obtain ⟨q0,hq0⟩ : ∃ q,putR p (zaf 0) = q := ⟨_,rfl⟩;rw [hq0] at HP6 ⊢;obtain ⟨p1,n1,e1⟩ := q0;dsimp only at HP6 ⊢;go_wp2;exact bodyPost_ret (v := .tuple #[.int .i64 n1,.bool true,.int .i64 e1]) (by simp [results,results143,go_sem]) rfl (by rw [hq0]; exact ⟨rfl,_,HP6.out⟩)
     cases h3 : (op == 3)
     ·exact absurd HOP3.out (by simp [h2,h5,h3])
     ·go_upto_region 15 with fail
      go_wp2_with fail
      refine (zbZ 0 (by unfold U64; omega) _ HP5.out.pool hbc).mono ?_;rintro e w7 ⟨rfl,F1,hp⟩;have HP6 := Hd (HP5.out.trans hp)
      clear hp;obtain ⟨q0,hq0⟩ : ∃ q,putR p (zaf 0) = q := ⟨_,rfl⟩;rw [hq0] at HP6 ⊢;obtain ⟨p1,n1,e1⟩ := q0;dsimp only at HP6 ⊢;go_wp2;exact bodyPost_ret (v := .tuple #[.int .i64 n1,.bool true,.int .i64 e1]) (by simp [results,results143,go_sem]) rfl (by rw [hq0]; exact ⟨rfl,_,HP6.out⟩)
    ·have hq := HQ2.out
     rw [if_neg (by simp)] at hq;injection hq with hq
     subst hq
     cases hd0 : (d == 0)
     ·go_wp2
      exact bodyPost_ret (v := .tuple #[.int .i64 0,.bool false,.int .i64 0]) (by simp [results,results143,go_sem]) rfl ⟨rfl,_,HP5.out⟩
     ·have hnb := HNB.out
      unfold ziu at hnb;rw [hd0,ztG] at hnb;have h2 : (op == 2) = false := by cases q : (op == 2) <;> simp_all
      have h5 : (op == 5) = false := by cases q : (op == 5) <;> simp_all
      have h3 : (op == 3) = false := by cases q : (op == 3) <;> simp_all
      clear hnb;go_wp2;exact bodyPost_ret (v := .tuple #[.int .i64 0,.bool false,.int .i64 0]) (by simp [results,results143,go_sem]) rfl ⟨rfl,_,HP5.out⟩
end
theorem by_r {base g f : Nat}(hIH : zsu base g f)(op x a : Int)(s : TD)(d : Int)(hd : U64 d)(hs : s.wf)(hop : 0 ≤ op ∧ op ≤ 12)(hx : x = 32 ∨ x = 64)(F : Nat → Prop)(p : PS)(q : Option RS)(W : World)(h : zaO W base F g p)(hbase : base ≤ W.heap.size)(ha : zal p.T a = true)
  (hq : byF f p op x a s d = some q) : Calls prog 143 #[.pointer (some ⟨g,0,none⟩),.int .i8 op,.int .i8 x,.int .i64 a,zaw s,.int .u64 d] W (RetB base g F W p q) := by
 unfold byF at hq
 cases hA : zb5 p.T s op x true
 ·rw [hA,if_neg (by simp)] at hq
  exact zqb op x a s d hd hs hop hx F p q W h hbase hA ha hq
 ·rw [hA,if_pos rfl,ztC] at hq
  obtain ⟨r,hr,rfl⟩ := hq;exact zn7 hIH op x a s d hd hs F p r W h hbase hA hr
end
end Go.Proofs.YtepagfkkjlbipaaGreat
