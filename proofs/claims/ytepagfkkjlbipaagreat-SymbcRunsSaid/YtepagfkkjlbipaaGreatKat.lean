/-
  Parts of the proof of SymbcRuns. Conditions: those written in each statement.
-/
import Derived.Test.YtepagfkkjlbipaaGreatKas
set_option linter.unusedVariables false
set_option linter.unusedSimpArgs false
set_option maxHeartbeats 64000000
set_option maxRecDepth 100000
namespace Go.Proofs.YtepagfkkjlbipaaGreat
open Go.RowKit
section
noncomputable def opV (p : PS)(op x a b : Int) : RS := open Classical in if h : ∃ r,∃ f,opF f p op x a b = some r then Classical.choose h else (p,0,2)
theorem zmK {f : Nat}{p : PS}{op x a b : Int}{r : RS}(h : opF f p op x a b = some r) : opV p op x a b = r := by
 have hx : ∃ r,∃ f,opF f p op x a b = some r := ⟨r,f,h⟩;unfold opV;rw [dif_pos hx];obtain ⟨g,hg⟩ := Classical.choose_spec hx;have h1 := zg6 g (g := max f g) p op x a b _ (Nat.le_max_right _ _) hg;have h2 := zg6 f (g := max f g) p op x a b _ (Nat.le_max_left _ _) h;rw [h1] at h2;exact Option.some.inj h2
theorem zbV {p : PS}(hw : WfP p)(hr : ∀ t ∈ p.T,t.wf)(op x a b : Int) : ∃ f,opF f p op x a b = some (opV p op x a b) := by
 obtain ⟨f,r,h⟩ := zp5 op x p hw hr a b;exact ⟨f,by rw [zmK h]; exact h⟩
def zfl (p : PS)(x a : Int) : RS := (ze3 (a.toNat + 1) p x a).getD (p,0,2)
theorem zdq {p : PS}(hw : WfP p)(x a : Int) : ze3 (a.toNat + 1) p x a = some (zfl p x a) := by
 obtain ⟨r,h⟩ := zkr hw x a;unfold zfl;rw [h]
 rfl
def ze0 (p : PS)(cc x a b : Int) : RS := (zdg 2 p cc x a b).getD (p,0,2)
theorem zct (p : PS)(cc x a b : Int) : zdg 2 p cc x a b = some (ze0 p cc x a b) := by
 obtain ⟨r,h⟩ := zlA p cc x a b;unfold ze0;rw [h]
 rfl
structure EvD where
 kind : Int
 size : Int
 a : Int
 v : Int
 num : Int
 args : List Int
deriving DecidableEq
def zdT (e : EvD) : Bool := e.kind == 0 || e.kind == 2
def zat (l : List EvD) : Nat := (l.filter zdT).length
structure ExD where
 kind : Int
 v : Int
 tgt : Int
 els : Int
deriving DecidableEq
structure SM where
 p : PS
 regs : List Int
 evs : List EvD
 err : Int
def SM.keep (m : SM)(r : RS) : SM × Int := (⟨r.1,m.regs,m.evs,if m.err = 0 then r.2.2 else m.err⟩,r.2.1)
def SM.reg (m : SM)(i : Int) : Int := m.regs.getD i.toNat 0
def SM.set (m : SM)(i n : Int) : SM := { m with regs := m.regs.set i.toNat n }
def SM.event (m : SM)(e : EvD) : SM := { m with evs := m.evs ++ [e] }
def SM.num (m : SM)(n : Int) : SM × Int := m.keep (putR m.p (zaf (IntKind.u64.wrap n)))
def SM.next (m : SM)(wide : Int) : SM × Int := m.keep (putR m.p (zdJ (38 + 3 * (zat m.evs : Int)) wide))
def SM.second (m : SM)(x : ID) : SM × Int :=
 if x.byReg = true then (m,m.reg x.src)
 else if x.kind = 0 ∧ zai x.op = true then m.num (bits .and .i64 x.imm (x.width - 1))
 else m.num x.imm
noncomputable def SM.place (m : SM)(reg off : Int) : SM × Int := (m.num off).1.keep (opV (m.num off).1.p 0 64 (m.reg reg) (m.num off).2)
noncomputable def SM.alu (m : SM)(x : ID) : SM :=
 let q := m.second x
 let s := q.1.keep (opV q.1.p x.op x.width (m.reg x.dst) q.2)
 s.1.set x.dst s.2
noncomputable def SM.load (m : SM)(x : ID) : SM :=
 let q := m.place x.src x.off
 let v := q.1.next (8 * x.size)
 (v.1.event ⟨0,x.size,q.2,v.2,0,[]⟩).set x.dst v.2
noncomputable def SM.store (m : SM)(x : ID) : SM :=
 let q := m.place x.dst x.off
 let v := q.1.keep (zfl q.1.p (8 * x.size) (m.reg x.src))
 v.1.event ⟨1,x.size,q.2,v.2,0,[]⟩
def zgq (l : List Int)(n : Int) : List Int := ((((l.set 1 n).set 2 n).set 3 n).set 4 n).set 5 n
def SM.call (m : SM)(x : ID) : SM :=
 let v := m.next 64
 let e := (v.1.event ⟨2,0,0,v.2,x.imm,(m.regs.drop 1).take (zcG x.imm).toNat⟩).set 0 v.2
 let z := e.num 0
 { z.1 with regs := zgq z.1.regs z.2 }
noncomputable def SM.step (m : SM)(x : ID) : SM :=
 if m.err ≠ 0 then m
 else if x.kind = 0 then m.alu x
 else if x.kind = 1 then m.load x
 else if x.kind = 2 then m.store x
 else if x.kind = 5 then m.call x
 else m
noncomputable def SM.go (m : SM) : List ID → SM
 | [] => m
 | x :: r => (m.step x).go r
noncomputable def SM.ask (m : SM)(cc a b : Int) : SM × Int :=
 if cc = 10 then
  let t := m.keep (opV m.p 5 64 a b)
  let z := t.1.num 0
  z.1.keep (ze0 z.1.p 1 64 t.2 z.2)
 else m.keep (ze0 m.p cc 64 a b)
noncomputable def SM.ends (m : SM)(x : ID)(next : List Int) : SM × ExD :=
 if x.kind = 6 then (m,⟨0,m.reg 0,0,0⟩)
 else if x.kind = 3 ∧ next.getD 0 0 ≠ next.getD 1 0 then
  let q := m.second x
  let c := q.1.ask x.op (m.reg x.dst) q.2
  (c.1,⟨2,c.2,next.getD 0 0,next.getD 1 0⟩)
 else (m,⟨1,0,next.getD 0 0,0⟩)
end
section
def zqr (I : PS → Prop) : Prop := ∀ (q : PS) (t : TD),t.kind ≠ 1 → I q → I (zcm q t)
section
variable {I : PS → Prop}
theorem zmL {r s : RS}{k : PS → Int → Option RS}(h : I r.1)(hk : ∀ s,k r.1 r.2.1 = some s → I s.1)(hs : zbA r k = some s) : I s.1 := by
 unfold zbA at hs
 split at hs
 ·exact hk s hs
 ·injection hs with hs
  subst hs;exact h
theorem zbx (hI : zqr I){p : PS}(h : I p)(n : Int) : I (putR p (zaf n)).1 := hI p _ (by show (0 : Int) ≠ 1; decide) h
theorem zev (hI : zqr I) : ∀ (f : Nat) {p : PS} {x a : Int} {r : RS},zbw f p x a = some r → I p → I r.1
 | 0,_,_,_,_,h,_ => by cases h
 | f + 1,p,x,a,r,h,hp => by
  rw [zbz] at h
  split at h
  ·injection h with h; subst h; exact hp
  split at h
  ·injection h with h; subst h; exact zbx hI hp _
  split at h
  ·injection h with h; subst h; exact hp
  split at h
  ·exact zev hI f h hp
  ·injection h with h; subst h; exact hI p _ (by show (3 : Int) ≠ 1; decide) hp
theorem zf9 (hI : zqr I){p : PS}(h : I p)(x a : Int) : I (zah p x a).1 := by
 rcases zbe p x a with ⟨_,e⟩ | ⟨_,e⟩ | ⟨_,e⟩ <;> rw [e]
 ·exact zbx hI h _
 ·exact h
 ·exact h
theorem zjP (hI : zqr I){p : PS}(h : I p)(x a b : Int) : I (zaj p x a b).1 := by
 have h1 := zf9 hI h x a;unfold zaj;dsimp only
 split
 ·exact zf9 hI h1 x b
 ·exact h1
theorem zh6 (hI : zqr I) : ∀ (f : Nat) {p : PS} {op x a b : Int} {r : RS},opF f p op x a b = some r → I p → I r.1
 | 0,_,_,_,_,_,_,h,_ => by cases h
 | f + 1,p,op,x,a,b,r,h,hp => by
  rw [zbu] at h
  split at h
  ·injection h with h; subst h; exact hp
  split at h
  ·injection h with h; subst h; exact hp
  have h1 := zjP hI hp x a b
  split at h
  ·generalize zaj p x a b = z at h h1
   obtain ⟨p1,a1,b1,e1⟩ := z;dsimp only at h h1;unfold opL at h;dsimp only at h
   split at h
   ·injection h with h; subst h; exact zbx hI h1 _
   split at h
   ·exact zmL (zbx hI h1 _) (fun s hs => zh6 hI f hs (zbx hI h1 _)) h
   split at h
   ·exact zev hI f h h1
   split at h
   ·exact zmL (zbx hI h1 _) (fun s hs => zh6 hI f hs (zbx hI h1 _)) h
   split at h
   ·exact zh6 hI f h h1
   split at h
   ·exact zmL (zbx hI h1 _) (fun s hs => zh6 hI f hs (zbx hI h1 _)) h
   split at h
   ·exact zev hI f h h1
   split at h
   ·injection h with h; subst h; exact zbx hI h1 _
   split at h
   ·injection h with h; subst h; exact zbx hI h1 _
   split at h
   ·exact zev hI f h h1
   ·injection h with h; subst h; exact hI p1 _ (by show (2 : Int) ≠ 1; decide) h1
  ·injection h with h; subst h; exact h1
theorem zjQ (hI : zqr I) : ∀ (f : Nat) {p : PS} {cc x a b : Int} {r : RS},zdg f p cc x a b = some r → I p → I r.1
 | 0,_,_,_,_,_,_,h,_ => by cases h
 | f + 1,p,cc,x,a,b,r,h,hp => by
  rw [zby] at h
  split at h
  ·injection h with h; subst h; exact hp
  split at h
  ·injection h with h; subst h; exact hp
  have h1 := zjP hI hp x a b
  split at h
  ·generalize zaj p x a b = z at h h1
   obtain ⟨p1,a1,b1,e1⟩ := z;dsimp only at h h1;unfold zeh at h;dsimp only at h
   split at h
   ·injection h with h; subst h; exact zbx hI h1 _
   split at h
   ·injection h with h; subst h; exact zbx hI h1 _
   split at h
   ·exact zjQ hI f h h1
   split at h
   ·injection h with h; subst h; exact hI p1 _ (by show (4 : Int) ≠ 1; decide) h1
   ·injection h with h; subst h; exact hI p1 _ (by show (4 : Int) ≠ 1; decide) h1
  ·injection h with h; subst h; exact h1
end
def VarsM (n : Nat)(p : PS) : Prop := ∀ t ∈ p.T,t.kind = 1 → t.n < 38 + 3 * (n : Int)
end
section
theorem zdd {q : PS}(hq : WfP q)(hr : ∀ t ∈ q.T,t.wf)(hz : NZ q){x a a1 : Int}(hx : x = 32 ∨ x = 64)(ha : zal q.T a = true)(h : zah q x a = (q,a1,0)) : zah q x a1 = (q,a1,0) := by
 have hwx : Wd4 x := by unfold Wd4; omega
 rcases zbe q x a with ⟨k,e⟩ | ⟨k,e⟩ | ⟨k,e⟩
 ·rw [h] at e
  have e1 : zcm q (zaf (zao x (atP q.T a).n)) = q := (congrArg Prod.fst e).symm;have e2 : zcP q (zaf (zao x (atP q.T a).n)) = (a1,0) := (congrArg Prod.snd e).symm;have hat := zfL (p := q) (t := zaf (zao x (atP q.T a).n)) (by rw [e2]);rw [e1,e2] at hat;unfold zah;dsimp only;rw [hat.2,if_pos (show (zaf (zao x (atP q.T a).n)).kind = 0 from rfl)];show putR q (zaf (zao x (zao x (atP q.T a).n))) = _
  rw [zcr hwx hwx (zba hr a).2.2.2.1,Int.min_self];exact e.symm
 ·rw [h] at e
  injection e with _ e
  injection e with e _
  have := hz a ha k;subst e;unfold zah;dsimp only;rw [if_neg this.1,if_neg (fun q => this.2 q.2.1)]
 ·rw [h] at e
  injection e with _ e
  injection e with e _
  subst e;exact h
theorem zmM {q : PS}{x a b a1 b1 : Int}(h1 : zah q x a = (q,a1,0))(h2 : zah q x b = (q,b1,0)) : zaj q x a b = (q,a1,b1,0) := by
 unfold zaj;rw [h1];dsimp only;rw [if_pos rfl,h2]
theorem zrR {q : PS}{f : Nat}{op x a b a1 b1 : Int}(ha : zal q.T a = true)(hb : zal q.T b = true)(hd : zdp op x = true)(h1 : zah q x a = (q,a1,0))(h2 : zah q x b = (q,b1,0)) : opF (f + 1) q op x a b = opL (fun q o u v => opF f q o x u v) f q op x a1 b1 := by
 rw [zbu,if_neg (by rw [ha,hb]; simp),if_neg (by rw [hd]; simp),zmM h1 h2];dsimp only;rw [if_pos rfl]
end
section
/-! ### instructions that may be -/
structure znH (x : ID) : Prop where
 kind : 0 ≤ x.kind ∧ x.kind ≤ 6
 dst : 0 ≤ x.dst ∧ x.dst ≤ 10
 src : 0 ≤ x.src ∧ x.src ≤ 10
 off : -32768 ≤ x.off ∧ x.off ≤ 32767
 imm : -2147483648 ≤ x.imm ∧ x.imm ≤ 2147483647
 alu : x.kind = 0 → (0 ≤ x.op ∧ x.op ≤ 12) ∧ (x.width = 32 ∨ x.width = 64)
 size : x.kind = 1 ∨ x.kind = 2 → x.size = 1 ∨ x.size = 2 ∨ x.size = 4 ∨ x.size = 8
 cond : x.kind = 3 → (0 ≤ x.op ∧ x.op ≤ 10) ∧ x.width = 0
 host : x.kind = 5 → 0 ≤ x.imm ∧ x.imm ≤ 15
theorem zcC {x : ID}(h : ze8 x = true) : znH x := by
 obtain ⟨k,op,wd,sz,br,dst,src,off,imm⟩ := x;unfold ze8 zq7 zcK at h;simp only [ztr] at h;obtain ⟨⟨⟨⟨h1,h2⟩,h3⟩,h4⟩,h5,h6⟩ := h;rw [zbm] at h1 h2 h3 h4;refine ⟨?_,h1,h2,h3,h4,?_,?_,?_,?_⟩
 ·dsimp only at h5 ⊢
  by_cases k0 : k = 0; · omega
  by_cases k1 : k = 1; · omega
  by_cases k2 : k = 2; · omega
  by_cases k3 : k = 3; · omega
  by_cases k4 : k = 4; · omega
  by_cases k5 : k = 5; · omega
  by_cases k6 : k = 6; · omega
  rw [if_neg k0,if_neg k1,if_neg k2,if_neg k3,if_neg k4,if_neg k5,if_neg k6] at h5
  cases h5
 ·rintro rfl
  dsimp only at h5 ⊢;rw [if_pos rfl] at h5;simp only [ztr,ztP,beq_iff_eq] at h5;rw [zbm] at h5;exact ⟨h5.1.1.1,h5.1.1.2⟩
 ·intro hk
  dsimp only at h5 hk ⊢;unfold szB at h5
  rcases hk with rfl | rfl
  ·rw [if_neg (by decide),if_pos rfl] at h5
   simp only [ztr,ztP,beq_iff_eq] at h5;omega
  ·rw [if_neg (by decide),if_neg (by decide),if_pos rfl] at h5
   simp only [ztP,beq_iff_eq] at h5;omega
 ·rintro rfl
  dsimp only at h5 ⊢;rw [if_neg (by decide),if_neg (by decide),if_neg (by decide),if_pos rfl,zbm] at h5;refine ⟨h5,?_⟩;unfold zdh znd kz at h6;dsimp only at h6;rw [if_neg (by decide),if_neg (by decide),if_neg (by decide),if_pos rfl] at h6
  cases br <;> simp [ID.cells,eqL,eqV] at h6 <;> omega
 ·rintro rfl
  dsimp only at h5 ⊢;rw [if_neg (by decide),if_neg (by decide),if_neg (by decide),if_neg (by decide),if_neg (by decide),if_pos rfl,zbm] at h5;exact h5
/-! ### a block of a program that may be -/
structure BkF (l : List ID)(x : BD)(i : Nat)(y : ID) : Prop where
 lo : 0 ≤ x.frm
 lt : x.frm < x.upto
 le : x.upto ≤ (l.length : Int)
 last : x.upto = (i : Int) + 1
 at_ : l[i]? = some y
 one : y.kind ≠ 6 → 1 ≤ x.next.length
 two : y.kind = 3 → x.next.length = 2
theorem zga {l : List ID}(h1 : 0 < l.length)(hn : l.length ≤ 64)(hok : ∀ (j : Nat) (x : ID),l[j]? = some x → zdI l.length j x = true){x : BD}(hx : x ∈ zeX l) : ∃ i y,BkF l x i y := by
 obtain ⟨b,p,hp,_,rfl⟩ := zjF hx;have I := zcs (zbo l) l.length h1;have hlt := I.lt b p hp;obtain ⟨f,t⟩ := p;dsimp only at hlt;obtain ⟨i,rfl⟩ : ∃ i : Nat,t = (i : Int) + 1 := ⟨(t - 1).toNat,by omega⟩;have hi : i < l.length := by omega
 have hy : l[i]? = some l[i] := ztq hi;have hm := hok i _ hy;unfold zdI at hm;have hm2 := zcC (x := l[i]) (by simp only [ztr] at hm; exact hm.1);have ht : l[i].kind = 3 ∨ l[i].kind = 4 → zcE i l[i] = true := by
  intro hk;unfold zcE;simp only [ztr,ztP,beq_iff_eq];rw [zbm,zbm];have := hm2.off;omega
 refine ⟨i,l[i],?_⟩;rw [ziK hy];refine ⟨by show 0 ≤ f; omega,by show f < (i : Int) + 1; omega,by show (i : Int) + 1 ≤ _; omega,rfl,hy,fun h6 => ?_,fun h3 => ?_⟩
 ·show 1 ≤ (zaV (za3 l) b i l[i]).length
  unfold zaV;rw [List.length_append]
  by_cases h4 : l[i].kind = 4
  ·rw [if_pos (ht (.inr h4))]; simp
  ·rw [if_neg (by omega : ¬ (l[i].kind = 4 ∨ l[i].kind = 6))]; simp
 ·show (zaV (za3 l) b i l[i]).length = 2
  unfold zaV;rw [List.length_append,if_pos (ht (.inl h3)),if_neg (by omega : ¬ (l[i].kind = 4 ∨ l[i].kind = 6))]
  rfl
/-! ### Run -/
def zan : List Int := List.replicate 11 0
def zaZ : ExD := ⟨0,0,0,0⟩
structure zqs where
 p : PS
 regs : List Int
 evs : List EvD
 ex : ExD
 err : Int
def zqt (p : PS)(regs : List Int) : Bool := regs.all fun r => decide (0 ≤ r) && decide (r < (p.T.length : Int))
def zgr (p : PS)(l : List ID)(block : Int)(regs : List Int) : Bool := decide (0 ≤ block) && (decide (block < ((zeX l).length : Int)) && zqt p regs)
def ztd : BD := ⟨0,0,[]⟩
def zc0 : ID := ⟨0,0,0,0,false,0,0,0,0⟩
def za2 (l : List ID)(block : Int) : BD := (zeX l).getD block.toNat ztd
def zef (l : List ID)(x : BD) : List ID := (l.drop x.frm.toNat).take (x.upto - x.frm).toNat
noncomputable def goV (p : PS)(l : List ID)(block : Int)(regs : List Int) : SM := (SM.mk p regs [] 0).go (zef l (za2 l block))
noncomputable def zgn (p : PS)(c : Int)(l : List ID)(block : Int)(regs : List Int) : zqs :=
 if (zdj c l).2 ≠ 0 then ⟨p,zan,[],zaZ,(zdj c l).2⟩
 else if zgr p l block regs = false then ⟨p,zan,[],zaZ,2⟩
 else
  let m := goV p l block regs
  if m.err ≠ 0 then ⟨m.p,zan,[],zaZ,m.err⟩
  else
   let q := m.ends (l.getD ((za2 l block).upto - 1).toNat zc0) (za2 l block).next
   if q.1.err ≠ 0 then ⟨q.1.p,zan,[],zaZ,q.1.err⟩ else ⟨q.1.p,q.1.regs,q.1.evs,q.2,0⟩
/-! ### what a step leaves -/
theorem zpK (m : SM) : ∀ (a b : List ID),m.go (a ++ b) = (m.go a).go b := by
 intro a
 induction a generalizing m with
 | nil => intro b; rfl
 | cons x r ih => intro b; exact ih (m.step x) b
theorem zmN {m : SM}{l : List ID}{k : Nat}{x : ID}(h : l[k]? = some x) : m.go (l.take (k + 1)) = (m.go (l.take k)).step x := by
 rw [ztF,h,zpK]
 rfl
theorem zgR (m : SM)(x : ID) : (m.second x).1.evs = m.evs := by
 unfold SM.second
 split
 ·rfl
 ·split <;> rfl
theorem zoI (m : SM)(x : ID) : (m.step x).evs.length ≤ m.evs.length + 1 := by
 unfold SM.step
 split
 ·omega
 split
 ·show ((m.second x).1).evs.length ≤ _
  rw [zgR]; omega
 split
 ·show (m.evs ++ [_]).length ≤ _
  simp
 split
 ·show (m.evs ++ [_]).length ≤ _
  simp
 split
 ·show (m.evs ++ [_]).length ≤ _
  simp
 ·omega
theorem zmO (m : SM) : ∀ (l : List ID),(m.go l).evs.length ≤ m.evs.length + l.length := by
 intro l
 induction l generalizing m with
 | nil => exact ztn _
 | cons x r ih =>
  have h1 := ih (m.step x);have h2 := zoI m x;show ((m.step x).go r).evs.length ≤ _
  simp;omega
theorem zjR {m : SM}(h : m.err ≠ 0)(x : ID) : m.step x = m := by unfold SM.step; rw [if_pos h]
theorem zrS {m : SM}(h : m.err ≠ 0) : ∀ l : List ID,m.go l = m := by
 intro l
 induction l with
 | nil => rfl
 | cons x r ih => show (m.step x).go r = m; rw [zjR h x]; exact ih
end
section
def EvD.wf (x : EvD) : Prop := I8 x.kind ∧ I8 x.size ∧ I64 x.a ∧ I64 x.v ∧ I64 x.num
def evC (p : EvD × Value) : List Value := [.int .i8 p.1.kind,.int .i8 p.1.size,.int .i64 p.1.a,.int .i64 p.1.v,.int .i64 p.1.num,p.2]
def zbt (w : World)(F : Nat → Prop)(s : Value)(l : List EvD) : Prop := ∃ A c,∃ q : List (EvD × Value),s = .slice A l.length c ∧ l.length ≤ c ∧ q.map (·.1) = l ∧ za5 w F 6 A l.length (q.flatMap evC) ∧ ∀ p ∈ q,p.1.wf ∧ zbk w F p.2 p.1.args
section
variable {w w' : World}{F G H : Nat → Prop}{n : Nat}{A : Option Addr}{s : Value}{l : List EvD}
theorem zbt.chg (h : zbt w F s l)(hc : Chg H w w')(hH : ∀ b,H b → F b ∨ w.heap.size ≤ b)(hG : ∀ b,G b → F b ∨ w.heap.size ≤ b) : zbt w' G s l := by
 obtain ⟨A,c,q,h1,h2,h3,h4,h5⟩ := h;exact ⟨A,c,q,h1,h2,h3,h4.chg hc hH hG,fun p hp => ⟨(h5 p hp).1,(h5 p hp).2.chg hc hH hG⟩⟩
theorem zbt.form (h : zbt w F s l) : ∃ A c,s = .slice A l.length c ∧ l.length ≤ c := by
 obtain ⟨A,c,q,h1,h2,_⟩ := h;exact ⟨A,c,h1,h2⟩
theorem zbt.at_ {m c k : Nat}(h : zbt w F (.slice A m c) l)(hk : k < m) : ∃ ad x v,A = some ad ∧ ad.block < w.heap.size ∧ l[k]? = some x ∧ x.wf ∧ zbk w F v x.args ∧ ∀ j u,(evC (x,v))[j]? = some u → w.cell? ((ad.add (k * 6)).add j) = some u := by
 obtain ⟨A',c',q,h1,h2,rfl,h4,h5⟩ := h;injection h1 with h0 h1 hc
 subst h0 h1 hc;obtain ⟨ad,e,hb,_,hc⟩ := h4.2 (by omega);have hkq : k < q.length := by simpa using hk
 have hx : q[k]? = some q[k] := ztq hkq;obtain ⟨h6,h7⟩ := h5 _ (ztU hkq);refine ⟨ad,q[k].1,q[k].2,e,hb,by rw [ztw,hx]; rfl,h6,h7,fun j u hu => ?_⟩;rw [za0];exact hc _ u (ze7 evC 6 q (fun z hz => rfl) k j _ u hx hu)
theorem zbt.nil : zbt w F (.slice none 0 0) [] := ⟨none,0,[],rfl,ztn _,rfl,za5.none_,by simp⟩
end
end
section
theorem zbF : I64 0 := by unfold I64; omega
theorem zjS : ∀ (f : Nat) {p : PS} (hw : WfP p) (hr : ∀ t ∈ p.T,t.wf) {cc x a b : Int} (ha : I64 a) (hb : I64 b) {q : RS} (h : zdg f p cc x a b = some q),I64 q.2.1
 | 0,_,_,_,_,_,_,_,_,_,_,h => by cases h
 | f + 1,p,hw,hr,cc,x,a,b,ha,hb,q,h => by
  rw [zby] at h
  split at h
  ·injection h with h; subst h; unfold I64; dsimp only; omega
  split at h
  ·injection h with h; subst h; unfold I64; dsimp only; omega
  split at h
  ·have hi := zez hw hr ha hb x
   have hw2 := zbK hw hr ha hb x;unfold zeh at h;dsimp only at h
   split at h
   ·injection h with h; subst h; exact zaY hw2.1 _
   split at h
   ·injection h with h; subst h; exact zaY hw2.1 _
   split at h
   ·exact zjS f hw2.1 hw2.2 hi.2 hi.1 h
   split at h
   ·injection h with h; subst h; exact zaY hw2.1 _
   ·injection h with h; subst h; exact zaY hw2.1 _
  ·injection h with h; subst h; unfold I64; dsimp only; omega
theorem zew : ∀ (f : Nat) {p : PS} (hw : WfP p) (hr : ∀ t ∈ p.T,t.wf) {x a : Int} {r : RS},I64 a → zbw f p x a = some r → I64 r.2.1
 | 0,_,_,_,_,_,_,_,h => by cases h
 | f + 1,p,hw,hr,x,a,r,ha,h => by
  rw [zbz] at h
  split at h
  ·injection h with h; subst h; exact ha
  split at h
  ·injection h with h; subst h; exact zaY hw _
  split at h
  ·injection h with h; subst h; exact ha
  split at h
  ·exact zew f hw hr (zba hr a).2.2.2.2.1 h
  ·injection h with h; subst h; exact zaY hw _
theorem zh7 {p : PS}(hw : WfP p)(hr : ∀ t ∈ p.T,t.wf)(x : Int){a : Int}(ha : I64 a) : I64 (zfl p x a).2.1 := by
 have h := zdq hw x a;unfold ze3 at h
 split at h
 ·injection h with h; rw [← h]; exact zbF
 ·exact zew _ hw hr ha h
theorem zhr {r s : RS}{k : PS → Int → Option RS}(hk : r.2.2 = 0 → ∀ s,k r.1 r.2.1 = some s → I64 s.2.1)(hs : zbA r k = some s) : I64 s.2.1 := by
 unfold zbA at hs
 split at hs
 ·rename_i h0; exact hk h0 s hs
 ·injection hs with hs; subst hs; exact zbF
theorem zh8 : ∀ (f : Nat) {p : PS} (hw : WfP p) (hr : ∀ t ∈ p.T,t.wf) {op x a b : Int} {r : RS},opF f p op x a b = some r → I64 r.2.1
 | 0,_,_,_,_,_,_,_,_,h => by cases h
 | f + 1,p,hw,hr,op,x,a,b,r,h => by
  rw [zbu] at h
  split at h
  ·injection h with h; subst h; exact zbF
  rename_i hab;have hab : zal p.T a = true ∧ zal p.T b = true := by simpa using hab
  split at h
  ·injection h with h; subst h; exact zbF
  have ha := zap hw hab.1;have hb := zap hw hab.2;have hi := zez hw hr ha hb x;have hw2 := zbK hw hr ha hb x
  split at h
  ·generalize zaj p x a b = z at h hw2 hi
   obtain ⟨p1,a1,b1,e1⟩ := z;dsimp only at h hw2 hi;have hc : ∀ {n : Int},U64 n → zck p1 (putR p1 (zaf n)) := fun hn => zck.put hw2.1 hw2.2 (zaP hn)
   unfold opL at h;dsimp only at h
   split at h
   ·injection h with h; subst h; exact zaY hw2.1 _
   split at h
   ·exact zhr (fun _ s hs => zh8 f (hc zaA).wf (hc zaA).rng hs) h
   split at h
   ·exact zew f hw2.1 hw2.2 hi.2 h
   split at h
   ·have hu : U64 (zao x (IntKind.u64.wrap (-(atP p1.T b1).n))) := zau (wrap_u64 _)
    exact zhr (fun _ s hs => zh8 f (hc hu).wf (hc hu).rng hs) h
   split at h
   ·exact zh8 f hw2.1 hw2.2 h
   split at h
   ·have hu : U64 (zao x (IntKind.u64.wrap ((atP p1.T (atP p1.T a1).b).n + (atP p1.T b1).n))) := zau (wrap_u64 _)
    exact zhr (fun _ s hs => zh8 f (hc hu).wf (hc hu).rng hs) h
   split at h
   ·exact zew f hw2.1 hw2.2 hi.1 h
   split at h
   ·injection h with h; subst h; exact zaY hw2.1 _
   split at h
   ·injection h with h; subst h; exact zaY hw2.1 _
   split at h
   ·exact zew f hw2.1 hw2.2 hi.1 h
   ·injection h with h; subst h; exact zaY hw2.1 _
  ·injection h with h; subst h; exact zbF
theorem ze1 {p : PS}(hw : WfP p)(hr : ∀ t ∈ p.T,t.wf)(op x a b : Int) : I64 (opV p op x a b).2.1 := by
 obtain ⟨f,h⟩ := zbV hw hr op x a b;exact zh8 f hw hr h
theorem zex {p : PS}(hw : WfP p)(hr : ∀ t ∈ p.T,t.wf)(cc x : Int){a b : Int}(ha : I64 a)(hb : I64 b) : I64 (ze0 p cc x a b).2.1 := zjS 2 hw hr ha hb (zct p cc x a b)
end
section
theorem zeg (v : Int) : zao 64 v = v := by unfold zao; simp
theorem zfm (v : Int) : zao 32 v = v % 4294967296 := by unfold zao; simp
theorem zmP (op : Int){x : Int}(hx : x = 32 ∨ x = 64){a b : Int}(ha : U64 a)(hb : U64 b) : doU op x (zao x a) (zao x b) = doU op x a b := by
 have hw : Wd4 x := by unfold Wd4; omega
 have e1 : zao x (zao x a) = zao x a := by rw [zcr hw hw ha,Int.min_self]
 have e2 : zao x (zao x b) = zao x b := by rw [zcr hw hw hb,Int.min_self]
 unfold doU byV;rw [e1,e2]
theorem zoJ (op : Int){x : Int}(hx : x = 32 ∨ x = 64){a b a' b' : Int}(ha : U64 a)(hb : U64 b)(ha' : U64 a')(hb' : U64 b')(h1 : zao x a' = zao x a)(h2 : zao x b' = zao x b) : doU op x a' b' = doU op x a b := by
 rw [← zmP op hx ha hb,← zmP op hx ha' hb',h1,h2]
section
variable {x a b n d : Int}
theorem zqu (hx : x = 32 ∨ x = 64)(ha : U64 a) : doU 1 x 0 a = doU 8 x a b := by
 unfold U64 at ha;unfold doU doV
 rcases hx with rfl | rfl
 ·simp [zfm,IntKind.wrap_u64]
 ·simp [zeg,IntKind.wrap_u64]
theorem zqv (hx : x = 32 ∨ x = 64)(hb : U64 b) : zao x b = doU 11 x a b := by
 have hw : Wd4 x := by unfold Wd4; omega
 unfold doU doV;simp;rw [zcr hw hw hb,Int.min_self]
theorem zqw (hx : x = 32 ∨ x = 64)(ha : U64 a)(hb : U64 b) : doU 0 x a (zao x (IntKind.u64.wrap (-b))) = doU 1 x a b := by
 unfold U64 at ha hb;unfold doU doV
 rcases hx with rfl | rfl
 ·simp [zfm,IntKind.wrap_u64]; omega
 ·simp [zeg,IntKind.wrap_u64]; omega
theorem zmQ (hx : x = 32 ∨ x = 64)(ha : U64 a)(hn : U64 n)(hb : U64 b) : doU 0 x a (zao x (IntKind.u64.wrap (n + b))) = doU 0 x (doU 0 x a n) b := by
 unfold U64 at ha hb hn;unfold doU doV
 rcases hx with rfl | rfl
 ·simp [zfm,IntKind.wrap_u64]; omega
 ·simp [zeg,IntKind.wrap_u64]; omega
theorem zjT {a : Int}(ha : U64 a) : (BitVec.ofInt 64 a).toNat = a.toNat := by
 unfold U64 at ha;rw [BitVec.toNat_ofInt];omega
theorem zfy {a : Int}(ha : U64 a) : IntKind.u64.wrap ((a.toNat : Nat) : Int) = a := by
 unfold U64 at ha;rw [IntKind.wrap_u64];omega
theorem zoK (ha : U64 a) : bits .or .u64 a 0 = a := by
 unfold bits;dsimp only;show IntKind.u64.wrap (((BitVec.ofInt 64 a ||| 0#64).toNat : Nat) : Int) = a
 rw [BitVec.or_zero,zjT ha,zfy ha]
theorem zmR (ha : U64 a) : bits .xor .u64 a 0 = a := by
 unfold bits;dsimp only;show IntKind.u64.wrap (((BitVec.ofInt 64 a ^^^ 0#64).toNat : Nat) : Int) = a
 rw [BitVec.xor_zero,zjT ha,zfy ha]
theorem zmS : bits .and .u64 a 0 = 0 := by
 unfold bits;dsimp only;show IntKind.u64.wrap (((BitVec.ofInt 64 a &&& 0#64).toNat : Nat) : Int) = 0
 rw [BitVec.and_zero]
 rfl
theorem zmT : bits .xor .u64 a a = 0 := by
 unfold bits;dsimp only;rw [BitVec.xor_self]
 rfl
theorem zmU (ha : U64 a) : bits .and .u64 a a = a := by
 unfold bits;dsimp only;rw [BitVec.and_self];show IntKind.u64.wrap (((BitVec.ofInt 64 a).toNat : Nat) : Int) = a
 rw [zjT ha,zfy ha]
theorem zoL (ha : U64 a) : bits .or .u64 a a = a := by
 unfold bits;dsimp only;rw [BitVec.or_self];show IntKind.u64.wrap (((BitVec.ofInt 64 a).toNat : Nat) : Int) = a
 rw [zjT ha,zfy ha]
theorem zd5 (n : Int)(h0 : 0 ≤ n)(h1 : n < 2 ^ 64) : IntKind.u64.wrap n = n := by rw [IntKind.wrap_u64]; omega
theorem zqx (hx : x = 32 ∨ x = 64){op : Int}(h : ziu op d = true) : doU op x a d = 0 := by
 unfold ziu at h;simp at h;obtain ⟨rfl,h⟩ := h;have h0 : zao x 0 = 0 := by rcases hx with rfl | rfl <;> simp [zfm,zeg]
 unfold doU;rw [h0];unfold doV
 rcases h with rfl | rfl | rfl
 ·simp [IntKind.wrap_u64,h0]
 ·simp [zmS,h0]
 ·simp [h0]
theorem zoM (hx : x = 32 ∨ x = 64){op : Int}(h : op = 1 ∨ op = 10) : doU op x a a = 0 := by
 have h0 : zao x 0 = 0 := by rcases hx with rfl | rfl <;> simp [zfm,zeg]
 unfold doU doV
 rcases h with rfl | rfl
 ·simp [IntKind.wrap_u64,h0]
 ·simp [zmT,h0]
theorem zqy (hx : x = 32 ∨ x = 64)(ha : U64 a){op : Int}(h : op = 5 ∨ op = 4) : doU op x a a = zao x a := by
 have hw : Wd4 x := by unfold Wd4; omega
 have hc := zau (x := x) ha;unfold doU doV
 rcases h with rfl | rfl
 ·simp [zmU hc]
  rw [zcr hw hw ha,Int.min_self]
 ·simp [zoL hc]
  rw [zcr hw hw ha,Int.min_self]
theorem zoN (hx : x = 32 ∨ x = 64)(ha : U64 a)(hd : U64 d){op : Int}(h : zaB op x d = true) : doU op x a d = zao x a := by
 have hw : Wd4 x := by unfold Wd4; omega
 have hc := zau (x := x) ha;have hcc : zao x (zao x a) = zao x a := by rw [zcr hw hw ha,Int.min_self]
 have h0 : zao x 0 = 0 := by rcases hx with rfl | rfl <;> simp [zfm,zeg]
 have hcu := hc;unfold U64 at hcu;have hwr : IntKind.u64.wrap (zao x a) = zao x a := by rw [IntKind.wrap_u64]; omega
 unfold zaB at h;simp only [ztP,ztr] at h
 rcases h with ⟨hd0,h⟩ | ⟨hs,hm⟩ | h
 ·have hd0 : d = 0 := by simpa using hd0
  subst hd0;unfold doU;rw [h0];unfold doV;simp at h
  rcases h with rfl | rfl | rfl | rfl
  ·simp [hwr,hcc]
  ·simp [zoK hc,hcc]
  ·simp [zmR hc,hcc]
  ·simp [hcc]
 ·have hby : byV x d = 0 := by
   rw [zpJ hx hd];have hm : bits .and .u64 d (x - 1) = 0 := by simpa using hm
   unfold U64 at hd
   rcases hx with rfl | rfl
   ·have := bits_mask .u64 64 (by decide) zd5 5 (by decide) d hd.1 (by omega)
    rw [show (2 : Int) ^ 5 - 1 = 32 - 1 by decide,hm] at this;rw [zfm];omega
   ·have := bits_mask .u64 64 (by decide) zd5 6 (by decide) d hd.1 (by omega)
    rw [show (2 : Int) ^ 6 - 1 = 64 - 1 by decide,hm] at this;rw [zeg];omega
  unfold doU;rw [hby];unfold doV;unfold zai at hs;simp at hs
  rcases hs with rfl | rfl | rfl
  ·simp [hwr,hcc]
  ·simp [hcc]
  ·simp
   unfold zbj wrap64
   rcases hx with rfl | rfl
   ·rw [zfm] at hcu
    simp [IntKind.wrap_u64,IntKind.wrap_i32,zfm,wrap32] <;> omega
   ·rw [zeg] at hcu
    simp [IntKind.wrap_u64,zeg] <;> omega
 ·simp at h
  rcases h with ⟨rfl,rfl⟩ | ⟨rfl,rfl⟩
  ·unfold doU doV
   rcases hx with rfl | rfl
   ·unfold U64 at ha
    simp [zfm,IntKind.wrap_u64] <;> omega
   ·unfold U64 at ha
    simp [zeg,IntKind.wrap_u64] <;> omega
  ·unfold doU doV
   simp;unfold U64 at ha
   rcases hx with rfl | rfl
   ·have := bits_mask .u64 64 (by decide) zd5 32 (by decide) (zao 32 a) hcu.1 (by omega)
    rw [show zao 32 (zao 32 18446744073709551615) = 2 ^ 32 - 1 by decide,this,zfm,zfm];omega
   ·have := bits_mask .u64 64 (by decide) zd5 64 (by decide) (zao 64 a) hcu.1 (by omega)
    rw [show zao 64 (zao 64 18446744073709551615) = 2 ^ 64 - 1 by decide,this,zeg,zeg];omega
end
end
section
theorem zpL {p q : PS}(hw : WfP p)(hq : WfP q)(he : Ext p q)(vs : List Int) : ∀ (N : Nat) (n : Int),n.toNat < N → zal p.T n = true → evP q.T vs n = evP p.T vs n := by
 intro N
 induction N with
 | zero => intro n h; omega
 | succ N ih =>
  intro n h hn;rw [zds hw hn,zds hq (he.has hn),he.at_ hn];refine zeB vs _ fun k hk => ?_
  have hl := zcD hw hn hk;exact ih k (by omega) (zdy hw hn hk)
def AV (vs : List Int)(p : PS) : Prop := ∀ n,zal p.T n = true → ∃ v,evP p.T vs n = some v
section
variable {vs : List Int}(hU : ∀ v ∈ vs,U64 v)
structure Snd (vs : List Int)(p : PS)(r : RS)(v : Int) : Prop where
 good : zck p r
 av : AV vs r.1
 val : r.2.2 = 0 → evP r.1.T vs r.2.1 = some v
theorem zdK {p q : PS}(hw : WfP p)(hq : WfP q)(he : Ext p q){n v : Int}(h : evP p.T vs n = some v) : evP q.T vs n = some v := by
 cases hb : zal p.T n
 ·rw [zjW hb] at h; cases h
 ·rw [zpL hw hq he vs _ n (ztI _) hb]; exact h
theorem Snd.up {p q : PS}{r : RS}{v : Int}(he : Ext p q)(h : Snd vs q r v) : Snd vs p r v := ⟨h.good.up he,h.av,h.val⟩
theorem Snd.same {p : PS}(hw : WfP p)(hr : ∀ t ∈ p.T,t.wf)(ha : AV vs p){n v : Int}(hn : zal p.T n = true)(h : evP p.T vs n = some v) : Snd vs p (p,n,0) v := ⟨zck.same hw hr hn,ha,fun _ => h⟩
theorem Snd.err {p : PS}(hw : WfP p)(hr : ∀ t ∈ p.T,t.wf)(ha : AV vs p)(n v : Int){e : Int}(he : e ≠ 0) : Snd vs p (p,n,e) v := ⟨zck.err hw hr n he,ha,fun h => absurd h he⟩
theorem Snd.cast {p : PS}{r : RS}{v u : Int}(h : Snd vs p r v)(e : v = u) : Snd vs p r u := e ▸ h
theorem Snd.put {p : PS}(hw : WfP p)(hr : ∀ t ∈ p.T,t.wf)(ha : AV vs p){t : TD}(ht : t.wf){v : Int}(hv : evT vs t (evP p.T vs) = some v) : Snd vs p (putR p t) v := by
 have hg := zck.put hw hr ht;have hq := (zb0 hw hr ht).1;have he := Ext.put p t;have hval : (zcP p t).2 = 0 → evP (zcm p t).T vs (zcP p t).1 = some v := by
  intro h0;have hp := zfL h0;rw [zds hq hp.1,hp.2];rw [← hv];refine zeB vs t fun k hk => ?_
  have hk2 := (zdU (zok h0)).2.1 k hk;have hkb : zal p.T k = true := by unfold zal; simp; exact hk2
  exact zpL hw hq he vs _ k (ztI _) hkb
 refine ⟨hg,fun n hn => ?_,hval⟩
 cases hb : zal p.T n
 ·have hn' : zal (zcm p t).T n = true := hn
  rcases za8 p t with ⟨e,_⟩ | ⟨_,_,_,_,e,e2⟩
  ·rw [e] at hn'; rw [hb] at hn'; cases hn'
  ·have hnn : n = (zcP p t).1 := by
    rw [e] at hn';rw [e2];unfold zal at hn' hb;simp at hn' hb;show n = (p.T.length : Int)
    omega
   exact ⟨v,by rw [hnn]; exact hval (by rw [e2])⟩
 ·obtain ⟨u,hu⟩ := ha n hb
  exact ⟨u,zdK hw hq he hu⟩
theorem Snd.bind {p : PS}{r s : RS}{v u : Int}{k : PS → Int → Option RS}(h : Snd vs p r v)(hk : r.2.2 = 0 → ∀ s,k r.1 r.2.1 = some s → Snd vs r.1 s u)(hs : zbA r k = some s) : Snd vs p s u := by
 unfold zbA at hs
 split at hs
 ·rename_i h0; exact (hk h0 s hs).up h.good.ext
 ·rename_i h0
  injection hs with hs
  subst hs;exact ⟨⟨h.good.ext,h.good.wf,h.good.rng,fun e => absurd e h0⟩,h.av,fun e => absurd e h0⟩
theorem zdA {p : PS}(hw : WfP p){n : Int}(hn : zal p.T n = true)(hk : (atP p.T n).kind = 0) : evP p.T vs n = some (atP p.T n).n := by
 rw [zds hw hn];unfold evT;rw [if_neg (by omega),if_neg (by omega),if_neg (by omega),if_neg (by omega),if_neg (by omega)]
theorem zgb (n : Int)(rec : Int → Option Int) : evT vs (zaf n) rec = some n := rfl
include hU
omit hU in
theorem zrT {p : PS}(hw : WfP p){n : Int}(hn : zal p.T n = true)(hk : (atP p.T n).kind = 3 ∨ (atP p.T n).kind = 1) : Wd4 (atP p.T n).w := by
 obtain ⟨i,_,hi⟩ := zfW hn;have := hw.ok i _ hi;unfold okF zcl at this;simp only [ztr] at this;have h1 := this.1
 rcases hk with hk | hk
 ·rw [if_neg (by omega),if_neg (by omega),if_neg (by omega),if_neg (by omega),if_pos hk] at h1
  simp at h1;exact zm2 h1.2
 ·rw [if_neg (by omega),if_pos hk] at h1
  exact zm2 h1
theorem zkS {p : PS}(hw : WfP p)(hr : ∀ t ∈ p.T,t.wf){a x v : Int}(hx : Wd4 x)(ha : zal p.T a = true)(hn : zbY p.T a x = true)(hv : evP p.T vs a = some v) : zao x v = v := by
 rw [zds hw ha] at hv;have hu : ∀ k u,evP p.T vs k = some u → U64 u := fun k u h => zc2 hr hU h
 unfold zbY at hn;dsimp only at hn
 by_cases h64 : x = 64
 ·rw [h64,zeg]
 by_cases h4 : (atP p.T a).kind = 4
 ·unfold evT at hv
  rw [if_neg (by omega),if_neg (by omega),if_neg (by omega),if_pos h4] at hv;rw [ztQ] at hv;obtain ⟨s,_,hv⟩ := hv;rw [ztC] at hv;obtain ⟨t,_,rfl⟩ := hv;generalize zaJ _ _ _ _ = bb
  cases bb <;> rcases hx with rfl | rfl | rfl | rfl <;> simp [zcO,zao]
 rw [if_neg (by omega)] at hn
 by_cases h0 : (atP p.T a).kind = 0
 ·rw [if_pos h0] at hn
  unfold evT at hv;rw [if_neg (by omega),if_neg (by omega),if_neg (by omega),if_neg (by omega),if_neg (by omega)] at hv;injection hv with hv
  simp at hn;rw [← hv];exact hn.symm
 rw [if_neg h0] at hn
 by_cases h31 : (atP p.T a).kind = 3 ∨ (atP p.T a).kind = 1
 ·rw [if_pos h31] at hn
  have hwd := zrT hw ha h31;simp at hn;unfold evT at hv
  rcases h31 with h3 | h1
  ·rw [if_neg (by omega),if_pos h3,ztC] at hv
   obtain ⟨s,hs,rfl⟩ := hv;rw [zcr hwd hx (hu _ _ hs),Int.min_eq_left hn]
  ·rw [if_pos h1,ztC] at hv
   obtain ⟨s,hs,rfl⟩ := hv;rw [zcr hwd hx (hU s (ztv hs)),Int.min_eq_left hn]
 ·rw [if_neg h31] at hn
  simp at hn;unfold evT at hv;rw [if_neg (by omega),if_neg (by omega),if_pos hn.1,ztQ] at hv;obtain ⟨s,hs,hv⟩ := hv;rw [ztC] at hv;obtain ⟨t,ht,rfl⟩ := hv;rw [hn.2.1,hn.2.2];have h32 : Wd4 32 := by unfold Wd4; omega
  unfold doU;rw [zcr h32 h32 (zfV (zau (hu _ _ hs)) (zau (hu _ _ ht))),Int.min_self]
theorem zey : ∀ (f : Nat) {p : PS} (hw : WfP p) (hr : ∀ t ∈ p.T,t.wf) (hav : AV vs p) {x a v : Int} {r : RS} (hx : Wd4 x) (ha : zal p.T a = true) (hv : evP p.T vs a = some v),zbw f p x a = some r → Snd vs p r (zao x v)
 | 0,_,_,_,_,_,_,_,_,_,_,_,h => by cases h
 | f + 1,p,hw,hr,hav,x,a,v,r,hx,ha,hv,h => by
  have hI8 : I8 x := by unfold I8; rcases hx with rfl | rfl | rfl | rfl <;> omega
  have hu := zc2 hr hU hv;rw [zbz] at h
  split at h
  ·rename_i h1; injection h with h; subst h; exact Snd.same hw hr hav ha (by rw [h1,zeg]; exact hv)
  rename_i h64
  split at h
  ·rename_i h2
   injection h with h; subst h
   have hc := zdA (vs := vs) hw ha h2;rw [hv] at hc;injection hc with hc
   exact Snd.put hw hr hav (zaP (zau (zba hr a).2.2.2.1)) (by rw [zgb,← hc])
  rename_i k0
  split at h
  ·rename_i h3; injection h with h; subst h; exact Snd.same hw hr hav ha (by rw [zkS hU hw hr hx ha h3 hv]; exact hv)
  rename_i hnn
  split at h
  ·rename_i h4
   have hp := zch hw ha h4;have hwd := zrT hw ha (.inl h4);have hv' := hv;rw [zds hw ha] at hv';unfold evT at hv';rw [if_neg (by omega),if_pos h4,ztC] at hv';obtain ⟨s,hs,rfl⟩ := hv';refine (zey f hw hr hav hx hp.2.2 hs h).cast ?_;rw [zcr hwd hx (zc2 hr hU hs)];have : ¬ (atP p.T a).w ≤ x := by
    intro hle;apply hnn;unfold zbY;dsimp only;rw [if_neg (by omega),if_neg k0,if_pos (.inl h4)]
    simpa using hle
   rw [Int.min_eq_right (by omega)]
  ·rename_i k3
   injection h with h; subst h
   refine Snd.put hw hr hav (zfz (zap hw ha) hI8) ?_;show evT vs (zgd x a) (evP p.T vs) = _
   unfold evT;rw [if_neg (by show ¬ (3 : Int) = 1; decide),if_pos (show (zgd x a).kind = 3 from rfl)];show (evP p.T vs a).map (zao x) = _
   rw [hv]
   rfl
theorem zgc {p : PS}(hw : WfP p)(hr : ∀ t ∈ p.T,t.wf)(hav : AV vs p){x a v : Int}(hx : x = 32 ∨ x = 64)(ha : zal p.T a = true)(hv : evP p.T vs a = some v) : ∃ u,Snd vs p (zah p x a) u ∧ zao x u = zao x v ∧ U64 u := by
 have hwx : Wd4 x := by unfold Wd4; omega
 have hu := zc2 hr hU hv;unfold zah;dsimp only
 by_cases k0 : (atP p.T a).kind = 0
 ·rw [if_pos k0]
  have hc := zdA (vs := vs) hw ha k0;rw [hv] at hc;injection hc with hc
  refine ⟨zao x v,Snd.put hw hr hav (zaP (zau (zba hr a).2.2.2.1)) (by rw [zgb,← hc]),by rw [zcr hwx hwx hu,Int.min_self],zau hu⟩
 ·rw [if_neg k0]
  by_cases h3 : x = 32 ∧ (atP p.T a).kind = 3 ∧ (atP p.T a).w = 32
  ·rw [if_pos h3]
   have hp := zch hw ha h3.2.1;have hv' := hv;rw [zds hw ha] at hv';unfold evT at hv';rw [if_neg (by omega),if_pos h3.2.1,ztC] at hv';obtain ⟨s,hs,rfl⟩ := hv';refine ⟨s,Snd.same hw hr hav hp.2.2 hs,?_,zc2 hr hU hs⟩;rw [h3.2.2,h3.1];have h32 : Wd4 32 := by unfold Wd4; omega
   rw [zcr h32 h32 (zc2 hr hU hs),Int.min_self]
  ·rw [if_neg h3]
   exact ⟨v,Snd.same hw hr hav ha hv,rfl,hu⟩
theorem zjU {p : PS}(hw : WfP p)(hr : ∀ t ∈ p.T,t.wf)(hav : AV vs p){x a b va vb : Int}(hx : x = 32 ∨ x = 64)(ha : zal p.T a = true)(hb : zal p.T b = true)(hva : evP p.T vs a = some va)(hvb : evP p.T vs b = some vb) :
  AV vs (zaj p x a b).1 ∧ ((zaj p x a b).2.2.2 = 0 → ∃ ua ub,evP (zaj p x a b).1.T vs (zaj p x a b).2.1 = some ua ∧ evP (zaj p x a b).1.T vs (zaj p x a b).2.2.1 = some ub ∧ zao x ua = zao x va ∧ zao x ub = zao x vb ∧ U64 ua ∧ U64 ub) := by
 obtain ⟨ua,hs,hc,hu⟩ := zgc hU hw hr hav hx ha hva;unfold zaj;dsimp only
 by_cases h0 : (zah p x a).2.2 = 0
 ·rw [if_pos h0]
  dsimp only;have e1 := zaT p x a;obtain ⟨ub,hs2,hc2,hu2⟩ := zgc hU hs.good.wf hs.good.rng hs.av hx (e1.has hb) (zdK hw hs.good.wf e1 hvb);refine ⟨hs2.av,fun he => ⟨ua,ub,zdK hs.good.wf hs2.good.wf hs2.good.ext (hs.val h0),hs2.val he,hc,hc2,hu,hu2⟩⟩
 ·rw [if_neg h0]
  exact ⟨hs.av,fun he => absurd he h0⟩
end
end
end Go.Proofs.YtepagfkkjlbipaaGreat
