/-
  Parts of the proof of SymbcRuns. Conditions: those written in each statement.
-/
import Derived.Test.YtepagfkkjlbipaaGreatKad
set_option linter.unusedVariables false
set_option linter.unusedSimpArgs false
set_option maxHeartbeats 64000000
set_option maxRecDepth 100000
namespace Go.Proofs.YtepagfkkjlbipaaGreat
open Go.RowKit
open Tryz
section
theorem zbm {n a b : Int} : inB n a b = true ↔ a ≤ n ∧ n ≤ b := by unfold inB; simp
theorem zdH {n a b : Int} : inB n a b = false ↔ ¬ (a ≤ n ∧ n ≤ b) := by rw [← zbm]; simp
def zdI (n : Nat)(i : Nat)(x : ID) : Bool := ze8 x && !(zcE i x && !inB (zdE i x) 0 ((n : Int) - 1))
def zfa (n : Nat) : List ID → Nat → Option (Int × Int)
 | [],_ => none
 | x :: r,i => if ze8 x = false then some ((i : Int),31) else if (zcE i x && !inB (zdE i x) 0 ((n : Int) - 1)) = true then some ((i : Int),32) else zfa n r (i + 1)
def zgw (l : List ID) : Int := ((l[l.length - 1]?).map ID.kind).getD 0
def zdj (c : Int)(l : List ID) : Int × Int :=
 if inB c 0 256 = false then (0,2)
 else if inB ((l.length : Int) - 1) 0 63 = false then (0,3)
 else match zfa l.length l 0 with
  | some r => r
  | none => if zgw l ≠ 4 ∧ zgw l ≠ 6 then ((l.length : Int) - 1,33) else (0,0)
theorem zka {n : Nat} : ∀ (l : List ID) (k : Nat),(∀ j x,l[j]? = some x → zdI n (k + j) x = true) → zfa n l k = none
 | [],_,_ => rfl
 | x :: r,k,h => by
  have h0 := h 0 x rfl;unfold zdI at h0;simp only [Nat.add_zero,ztr,zui] at h0;rw [zfa,if_neg (by rw [h0.1]; simp),if_neg (by rw [h0.2]; simp)];exact zka r (k + 1) fun j y hy => by
   have := h (j + 1) y (by simpa using hy)
   rwa [show k + (j + 1) = k + 1 + j by omega] at this
theorem zkb {n : Nat} : ∀ (l : List ID) (k j : Nat) (x : ID),l[j]? = some x → (∀ i y,i < j → l[i]? = some y → zdI n (k + i) y = true) → zdI n (k + j) x = false →
  zfa n l k = some (((k + j : Nat) : Int),if ze8 x then 32 else 31)
 | [],_,j,x,h,_,_ => by simp at h
 | y :: r,k,0,x,h,_,h0 => by
  simp at h;subst h;unfold zdI at h0;rw [zfa]
  cases hm : ze8 y
  ·rw [if_pos rfl]; rfl
  ·rw [hm] at h0
   simp only [ztG,Bool.not_eq_false'] at h0;rw [if_neg (by simp),if_pos (by simpa using h0)]
   rfl
 | y :: r,k,j + 1,x,h,hb,h0 => by
  have h1 := hb 0 y (by omega) rfl;unfold zdI at h1;simp only [Nat.add_zero,ztr,zui] at h1;rw [zfa,if_neg (by rw [h1.1]; simp),if_neg (by rw [h1.2]; simp)];have := zkb r (k + 1) j x (by simpa using h) (fun i z hi hz => by
   have := hb (i + 1) z (by omega) (by simpa using hz)
   rwa [show k + (i + 1) = k + 1 + i by omega] at this) (by rwa [show k + 1 + j = k + (j + 1) by omega])
  rw [this,show k + 1 + j = k + (j + 1) by omega]
theorem zfk {n : Nat} : ∀ (l : List ID) (k : Nat),zfa n l k = none → ∀ j x,l[j]? = some x → zdI n (k + j) x = true
 | [],_,_,j,x,hx => by simp at hx
 | y :: r,k,h,j,x,hx => by
  rw [zfa] at h
  split at h
  ·cases h
  ·rename_i h1
   split at h
   ·cases h
   ·rename_i h2
    cases j with
    | zero =>
     simp at hx;subst hx;unfold zdI;simp only [Bool.not_eq_false,Bool.not_eq_true] at h1 h2;rw [Nat.add_zero,h1,h2]
     rfl
    | succ j =>
     have := zfk r (k + 1) h j x (by simpa using hx)
     rwa [show k + 1 + j = k + (j + 1) by omega] at this
theorem znw {n : Nat} : ∀ (l : List ID) (k : Nat) (r : Int × Int),zfa n l k = some r → r.2 = 31 ∨ r.2 = 32
 | [],_,r,h => by simp [zfa] at h
 | y :: t,k,r,h => by
  rw [zfa] at h
  split at h
  ·injection h with h; subst h; exact .inl rfl
  ·split at h
   ·injection h with h; subst h; exact .inr rfl
   ·exact znw t (k + 1) r h
theorem zg1 {c : Int}{l : List ID}(h : (zdj c l).2 = 0) : 0 ≤ c ∧ c ≤ 256 ∧ 1 ≤ l.length ∧ l.length ≤ 64 ∧ (∀ (j : Nat) (x : ID),l[j]? = some x → zdI l.length j x = true) ∧ (zgw l = 4 ∨ zgw l = 6) ∧ zdj c l = (0,0) := by
 have h' := h;unfold zdj at h
 split at h
 ·cases h
 ·rename_i h1
  split at h
  ·cases h
  ·rename_i h2
   simp only [Bool.not_eq_false] at h1 h2;rw [zbm] at h1 h2
   cases hb : zfa l.length l 0 with
   | some r =>
    rw [hb] at h;have := znw l 0 r hb;dsimp only at h;omega
   | none =>
    rw [hb] at h;dsimp only at h
    split at h
    ·cases h
    ·rename_i h3
     refine ⟨by omega,by omega,by omega,by omega,fun j x hx => by simpa using zfk l 0 hb j x hx,by omega,?_⟩;unfold zdj;rw [if_neg (by rw [zdH]; omega),if_neg (by rw [zdH]; omega),hb];dsimp only;rw [if_neg h3]
theorem zjb {c : Int}{l : List ID}(h : inB c 0 256 = false) : zdj c l = (0,2) := by unfold zdj; rw [if_pos h]
theorem zkc {c : Int}{l : List ID}(h : inB c 0 256 = true)(h2 : inB ((l.length : Int) - 1) 0 63 = false) : zdj c l = (0,3) := by unfold zdj; rw [if_neg (by rw [h]; simp),if_pos h2]
theorem zjc {c : Int}{l : List ID}{j : Nat}{x : ID}(h : inB c 0 256 = true)(h2 : inB ((l.length : Int) - 1) 0 63 = true)(hx : l[j]? = some x)(hb : ∀ i y,i < j → l[i]? = some y → zdI l.length i y = true)(h0 : zdI l.length j x = false) :
  zdj c l = ((j : Int),if ze8 x then 32 else 31) := by
 have := zkb (n := l.length) l 0 j x hx (fun i y hi hy => by simpa using hb i y hi hy) (by simpa using h0);unfold zdj;rw [if_neg (by rw [h]; simp),if_neg (by rw [h2]; simp),this];simp
theorem znx {c : Int}{l : List ID}(h : inB c 0 256 = true)(h2 : inB ((l.length : Int) - 1) 0 63 = true)(hb : ∀ i y,l[i]? = some y → zdI l.length i y = true) :
  zdj c l = if zgw l ≠ 4 ∧ zgw l ≠ 6 then ((l.length : Int) - 1,33) else (0,0) := by
 have := zka (n := l.length) l 0 (fun i y hy => by simpa using hb i y hy);unfold zdj;rw [if_neg (by rw [h]; simp),if_neg (by rw [h2]; simp),this]
theorem zpg {x : ID}(h : x.wf) : (zdh x).wf := by
 have := h;unfold ID.wf I8 I64 at this ⊢;unfold zdh znd
 repeat' split
 all_goals (first | omega | (dsimp only; omega))
theorem ztm {k : Int}(h : I8 k) : (kz k).wf := by
 unfold kz ID.wf I8 I64;unfold I8 at h;dsimp only;omega
end
section
def zcG (n : Int) : Int := if inB n 0 15 then n % 6 else 0
theorem zkd (n : Int) : 0 ≤ zcG n ∧ zcG n ≤ 5 := by
 unfold zcG
 split <;> omega
theorem zph (n : Int)(w : World) : Calls prog 80 #[.int .i64 n] w fun e w' => e = .returned (.int .i64 (zcG n)) ∧ w = w' := by
 cases h : inB n 0 15
 ·have HN := Hd (show zcG n = 0 by unfold zcG; rw [h]; rfl)
  go_enter func80,ntmps80;go_wp2_with fail
  refine (zbd _ _ _ _).mono ?_; rintro e w' ⟨rfl,rfl⟩; rw [h];go_wp2;go_ret;exact ⟨zid HN.out.symm,rfl⟩
 ·obtain ⟨h0,h1⟩ := zbm.1 h
  have HN := Hd (show zcG n = n % 6 by unfold zcG; rw [h]; rfl)
  go_enter func80,ntmps80;go_wp2_with fail
  refine (zbd _ _ _ _).mono ?_; rintro e w' ⟨rfl,rfl⟩; rw [h];go_wp2;go_ret;exact ⟨zid HN.out.symm,rfl⟩
end
section
open Go.RowKit Go.WideShapes Go.ChangeShapes Go.Deep
structure BD where
 frm : Int
 upto : Int
 next : List Int
abbrev iv (x : Int) : Value := .int .i64 x
def zjd (w : World)(B : Nat)(s : Value)(l : List Int) : Prop := ∃ A c,s = .slice A l.length c ∧ l.length ≤ c ∧ zaU w B 1 A l.length (l.map (Value.int .i64)) ∧ (∀ x ∈ l,I64 x) ∧ l.length < 9223372036854775808
def bkC (p : BD × Value) : List Value := [.int .i64 p.1.frm,.int .i64 p.1.upto,p.2]
def BD.wf (x : BD) : Prop := I64 x.frm ∧ I64 x.upto
def zje (w : World)(B : Nat)(A : Option Addr)(n : Nat)(l : List BD) : Prop := ∃ q : List (BD × Value),q.map (·.1) = l ∧ q.length = n ∧ zaU w B 3 A n (q.flatMap bkC) ∧ ∀ p ∈ q,p.1.wf ∧ zjd w B p.2 p.1.next
theorem zfC {α β : Type}(f : α → List β)(m : Nat) : ∀ (l : List α),(∀ x ∈ l,(f x).length = m) → ∀ (k j : Nat) (x : α) (u : β),l[k]? = some x → (f x)[j]? = some u → (l.flatMap f)[k * m + j]? = some u
 | [],_,k,j,x,u,hk,_ => by simp at hk
 | y :: r,hl,k,j,x,u,hk,hu => by
  rw [zuf];have hy := hl y (by simp)
  cases k with
  | zero =>
   simp at hk;subst hk;have hj : j < (f y).length := (ztt.1 hu).1;rw [Nat.zero_mul,ztO,ztJ hj,hu]
  | succ k =>
   have := zfC f m r (fun z hz => hl z (by simp [hz])) k j x u (by simpa using hk) hu;rw [zuh (by rw [hy,ztR]; omega),hy,show (k + 1) * m + j - m = k * m + j by rw [ztR]; omega];exact this
section
variable {w w' : World}{B B' n : Nat}{A : Option Addr}{l : List BD}{s : Value}{ns : List Int}
theorem zjd.below (h : zjd w B s ns)(hb : Below B w w') : zjd w' B s ns := by
 obtain ⟨A,c,h1,h2,h3,h4⟩ := h;exact ⟨A,c,h1,h2,h3.below hb,h4⟩
theorem zjd.more (h : zjd w B s ns)(hB : B ≤ B') : zjd w B' s ns := by
 obtain ⟨A,c,h1,h2,h3,h4⟩ := h;exact ⟨A,c,h1,h2,h3.more hB,h4⟩
theorem zjd.form (h : zjd w B s ns) : ∃ A c,s = .slice A ns.length c := by
 obtain ⟨A,c,h1,_⟩ := h;exact ⟨A,c,h1⟩
theorem zje.len (h : zje w B A n l) : l.length = n := by
 obtain ⟨q,rfl,h2,_⟩ := h;rw [List.length_map,h2]
theorem zje.at_ {k : Nat}(h : zje w B A n l)(hk : k < n) : ∃ ad x s,A = some ad ∧ ad.block < B ∧ l[k]? = some x ∧ x.wf ∧ zjd w B s x.next ∧ ∀ j u,(bkC (x,s))[j]? = some u → w.cell? ((ad.add (k * 3)).add j) = some u := by
 obtain ⟨q,rfl,h2,h3,h4⟩ := h;obtain ⟨ad,e,hb,hc⟩ := h3.2 (by omega);have hkq : k < q.length := by omega
 have hx : q[k]? = some q[k] := ztq hkq;obtain ⟨h5,h6⟩ := h4 _ (ztU hkq);refine ⟨ad,q[k].1,q[k].2,e,hb,by rw [ztw,hx]; rfl,h5,h6,fun j u hu => ?_⟩;rw [za0];exact hc _ u (zfC bkC 3 q (fun z hz => rfl) k j _ u hx hu)
end
/-! ### blocks that came in -/
section
variable {H : Type}{enc : TypeId × Value → H}{w : World}{base b0 : Nat}{re : Reach}{spare : Nat → Bool}{held : Bool}
end
end
section
def za5 (w : World)(F : Nat → Prop)(size : Nat)(A : Option Addr)(n : Nat)(xs : List Value) : Prop :=
 xs.length = n * size ∧ (0 < n → ∃ ad,A = some ad ∧ ad.block < w.heap.size ∧ ¬ F ad.block ∧ ∀ j u,xs[j]? = some u → w.cell? (ad.add j) = some u)
def zbk (w : World)(F : Nat → Prop)(s : Value)(l : List Int) : Prop := ∃ A c,s = .slice A l.length c ∧ l.length ≤ c ∧ za5 w F 1 A l.length (l.map (Value.int .i64)) ∧ (∀ x ∈ l,I64 x) ∧ l.length ≤ 5
section
variable {w w' : World}{F G H : Nat → Prop}{size n : Nat}{A : Option Addr}{xs : List Value}{s : Value}{l : List Int}
theorem za5.reads (h : za5 w F size A n xs) : zaU w w.heap.size size A n xs := ⟨h.1,fun hn => by
 obtain ⟨ad,e,hb,_,hc⟩ := h.2 hn;exact ⟨ad,e,hb,hc⟩⟩
theorem za5.chg (h : za5 w F size A n xs)(hc : Chg H w w')(hH : ∀ b,H b → F b ∨ w.heap.size ≤ b)(hG : ∀ b,G b → F b ∨ w.heap.size ≤ b) : za5 w' G size A n xs := ⟨h.1,fun hn => by
 obtain ⟨ad,e,hb,hf,hcell⟩ := h.2 hn;exact ⟨ad,e,zty hb hc.size,fun q => (hG _ q).elim hf (fun k => by omega),fun j u hu => (World.cell?_of_block (by rw [zaz]; exact hc.block _ hb (fun q => (hH _ q).elim hf (fun k => by omega)))).trans (hcell j u hu)⟩⟩
theorem za5.none_ : za5 w F size A 0 [] := ⟨by simp,fun h => absurd h (by omega)⟩
theorem za5.of_own {base : Nat}{e : TypeId}(h : w.ownsRow base e size s n xs)(hf : ∀ b,s.ownBlock = some b → ¬ F b) : ∃ A c,s = .slice A n c ∧ n ≤ c ∧ za5 w F size A n xs := by
 obtain ⟨A,c,rfl,h4,h5⟩ := (zbr.of_own h).slice;refine ⟨A,c,rfl,h4,h5.1,fun hn => ?_⟩;obtain ⟨ad,e,hb,hc⟩ := h5.2 hn;subst e;exact ⟨ad,rfl,hb,hf _ rfl,hc⟩
theorem zbk.chg (h : zbk w F s l)(hc : Chg H w w')(hH : ∀ b,H b → F b ∨ w.heap.size ≤ b)(hG : ∀ b,G b → F b ∨ w.heap.size ≤ b) : zbk w' G s l := by
 obtain ⟨A,c,h1,h2,h3,h4⟩ := h;exact ⟨A,c,h1,h2,h3.chg hc hH hG,h4⟩
theorem zbk.at_ {m c k : Nat}(h : zbk w F (.slice A m c) l)(hk : k < m) : ∃ ad x,A = some ad ∧ ad.block < w.heap.size ∧ l[k]? = some x ∧ I64 x ∧ w.cell? (ad.add k) = some (.int .i64 x) := by
 obtain ⟨A',c',h1,h2,h3,h4,h5⟩ := h;injection h1 with h0 h1 hc
 subst h0 h1 hc;obtain ⟨ad,u,e,hb,hx,hc⟩ := h3.reads.at_ hk;have hx' : l[k]? = some l[k] := ztq hk;rw [ztw,hx'] at hx;injection hx with hx
 subst hx;exact ⟨ad,_,e,hb,hx',h4 _ (ztU _),hc⟩
theorem zbk.form (h : zbk w F s l) : ∃ A c,s = .slice A l.length c := by
 obtain ⟨A,c,h1,_⟩ := h;exact ⟨A,c,h1⟩
theorem zbk.nil : zbk w F (.slice none 0 0) [] := ⟨none,0,rfl,ztn _,za5.none_,by simp,by simp⟩
end
def zlf (w : World)(F : Nat → Prop)(A : Option Addr)(n : Nat)(l : List BD) : Prop := ∃ q : List (BD × Value),q.map (·.1) = l ∧ q.length = n ∧ za5 w F 3 A n (q.flatMap bkC) ∧ ∀ p ∈ q,p.1.wf ∧ zbk w F p.2 p.1.next
section
variable {w w' : World}{F G H : Nat → Prop}{n : Nat}{A : Option Addr}{l : List BD}
theorem zlf.nil : zlf w F none 0 [] := ⟨[],rfl,rfl,za5.none_,by simp⟩
theorem zlf.chg (h : zlf w F A n l)(hc : Chg H w w')(hH : ∀ b,H b → F b ∨ w.heap.size ≤ b)(hG : ∀ b,G b → F b ∨ w.heap.size ≤ b) : zlf w' G A n l := by
 obtain ⟨q,h1,h2,h3,h4⟩ := h;exact ⟨q,h1,h2,h3.chg hc hH hG,fun p hp => ⟨(h4 p hp).1,(h4 p hp).2.chg hc hH hG⟩⟩
theorem zlf.at_ {k : Nat}(h : zlf w F A n l)(hk : k < n) : ∃ ad x s,A = some ad ∧ ad.block < w.heap.size ∧ ¬ F ad.block ∧ l[k]? = some x ∧ x.wf ∧ zbk w F s x.next ∧ ∀ j u,(bkC (x,s))[j]? = some u → w.cell? ((ad.add (k * 3)).add j) = some u := by
 obtain ⟨q,rfl,h2,h3,h4⟩ := h;obtain ⟨ad,e,hb,hf,hc⟩ := h3.2 (by omega);have hkq : k < q.length := by omega
 have hx : q[k]? = some q[k] := ztq hkq;obtain ⟨h5,h6⟩ := h4 _ (ztU hkq);refine ⟨ad,q[k].1,q[k].2,e,hb,hf,by rw [ztw,hx]; rfl,h5,h6,fun j u hu => ?_⟩;rw [za0];exact hc _ u (zfC bkC 3 q (fun z hz => rfl) k j _ u hx hu)
end
end
section
section
variable {P : Program}{ops : Array Oper}{Q : Exit → Act → World → Prop}{md : Region.Mode}{T S : World → Prop}{late : List Nat}{fuel : Nat}{listed : Array Bool}{ts ts' : List Value}{ds : List Deferred}{w : World}{t : Nat}
theorem eb (i : Nat)(v : Value){op : Op}(ho : zc6 ops i = some (some t,op))(hy : ∀ o : Oper,o.op = op → ∀ w,SS T S false w → (execOp (Act.eval ⟨ts.toArray,ds⟩) o).run P w = .ok (.value v) w)(hS : St T S late listed w)(h : zas P md ops Q T S late fuel (listed.setIfInBounds i true) ⟨ts'.toArray,ds⟩ w)(hc : zbv md ops late listed i false = true := by kernel_rfl)(hw : zaS ops i ⟨ts.toArray,ds⟩ = some true := by rfl)(hQ : ∀ c (a : Act) w,Q (.panic c) (a.put (some t) v) w → Q (.panic c) a w := by exact fun _ _ _ h => h)(hs : sL ts t v = ts' := by (simp only [sL]; rfl)) :
  zas P md ops Q T S late (fuel + 1) listed ⟨ts.toArray,ds⟩ w := zd8 false i _ op v ho hc hw hQ hy hS (by rw [pt,hs]; exact h)
theorem ej (i : Nat)(vx vy v : Value){ty : TypeId}{x y : Operand}(hr : ∀ w,(Instr.indexAt ty vx vy).run P w = .ok v w)(hS : St T S late listed w)(h : zas P md ops Q T S late fuel (listed.setIfInBounds i true) ⟨ts'.toArray,ds⟩ w)(ho : zc6 ops i = some (some t,.indexAddr ty x y) := by rfl)(hc : zbv md ops late listed i false = true := by kernel_rfl)(hw : zaS ops i ⟨ts.toArray,ds⟩ = some true := by rfl)(hQ : ∀ c (a : Act) w,Q (.panic c) (a.put (some t) v) w → Q (.panic c) a w := by exact fun _ _ _ h => h)
  (hx : Act.eval ⟨ts.toArray,ds⟩ x = vx := by rfl) (hy : Act.eval ⟨ts.toArray,ds⟩ y = vy := by rfl) (hs : sL ts t v = ts' := by (simp only [sL]; rfl)) : zas P md ops Q T S late (fuel + 1) listed ⟨ts.toArray,ds⟩ w := zd8 false i _ _ v ho hc hw hQ (fun o e w _ => by
  unfold execOp;simp only [e,hx,hy,Sem.run_bind,hr,Result.andThen_ok,Sem.run_pure]) hS (by rw [pt,hs]; exact h)
end
end
section
section
variable {P : Program}
theorem zgx {ops : Array Oper}{rest : List Oper}{o1 o2 : Oper}{a : Act}{w : World}{Q : Exit → Act → World → Prop}(hg1 : o1.guard = none)(hg2 : o2.guard = none)(t e : TypeId)(x s y : Operand)
  (ho1 : o1.op = .buildSlice t 1 #[(0,x)]) (ho2 : o2.op = .call { callee := .builtin .append,args := #[s,y],argTypes := #[t,t] })
  (base size bytes : Nat) (i0 : TypeInfo) (z v sv : Value) (cs xs : List Value) (n : Nat) (ht : P.underlying t = some (.slice e)) (hi : P.info? e = some i0) (hz : i0.zero = some z) (hs : i0.size = size) (hb : i0.bytes = bytes)
  (hzs : z.cells.size = size) (h0 : 0 < size) (hs0 : size ≤ 1024) (hx : a.eval x = v) (hcs : v.cells = cs.toArray) (hvs : cs.length = size) (h1 : ∀ u ∈ cs,u.oneCell' = true)
  (hown : w.ownsRow base e size sv n xs) (hbase : base ≤ w.heap.size) (h63 : n + 1 ≤ maxLen) (hbytes : (n + 1) * bytes ≤ 140737488355328)
  (hsv : (a.put o1.dst (.slice (some ⟨w.heap.size,0,none⟩) 1 1)).eval s = sv) (hy : (a.put o1.dst (.slice (some ⟨w.heap.size,0,none⟩) 1 1)).eval y = .slice (some ⟨w.heap.size,0,none⟩) 1 1)
  (h : ∀ v' w' g,w.heap.size ≤ g → w'.ownsRow base e size v' (n + 1) (xs ++ cs) → Below base w w' → w.grownBy w' sv.ownBlock → (v'.ownBlock = sv.ownBlock ∨ ∃ q,v'.ownBlock = some q ∧ w.heap.size ≤ q) → wpList P ops Q rest ((a.put o1.dst (.slice (some ⟨g,0,none⟩) 1 1)).put o2.dst v') w') : wpList P ops Q (o1 :: o2 :: rest) a w := by
 subst hs hb;refine wpList_plain hg1 fun K hK => ?_
 unfold Oper.wp execOp;have hrun := zbM (P := P) w t e i0 z v ht hi hz hs0 h0 (by rw [hcs]; simpa using hvs);simp only [ho1,Sem.run_bind,ztD,ztz,ztA,hx,hrun,Result.andThen_ok,Sem.run_pure];refine hK _ _ ?_;have hown' := hown.alloc (Obj.cells v.cells e);have hnew : zaU (w.alloc (.cells v.cells e)) (w.heap.size + 1) i0.size (some ⟨w.heap.size,0,none⟩) 1 cs := by
  refine ⟨by omega,fun _ => ⟨_,rfl,ztI _,fun j u hu => ?_⟩⟩;rw [show (⟨w.heap.size,0,none⟩ : Addr).add j = ⟨w.heap.size,j,none⟩ from by unfold Addr.add; split <;> simp_all];rw [(Blk.new w e v.cells).cell j,hcs]
  simpa using hu
 refine zcu _ hg2 s y t ho2 base e i0 z i0.size i0.bytes ht hi hz rfl rfl hzs h0 sv n xs hsv hown' _ _ 1 1 cs hy hnew h1 h63 hbytes (by simp; omega) fun v' w' q1 q2 q3 => ?_
 have hgr : w.grownBy w' sv.ownBlock := (World.grownBy_alloc w _ sv.ownBlock).trans q2;exact h v' w' _ (ztn _) q1 ((Below.refl _ _).grown hgr hbase (fun g hg => by
  rcases hown.2 with ⟨hsv0,_⟩ | ⟨g',cap,cur,hsv0,hg',_⟩
  ·rw [hsv0] at hg; simp [Value.ownBlock] at hg
  ·rw [hsv0] at hg; simp [Value.ownBlock] at hg; omega)) hgr (by
  rcases q3 with h | h
  ·exact .inl h
  ·exact .inr ⟨_,h,by simp⟩)
end
end
section
open Go.RowKit Go.WideShapes Go.ChangeShapes Go.Deep
theorem zqY : prog.cellsOf 24 = 2 := by kernel_rfl
theorem zqZ : prog.cellsOf 3 = 1 := by kernel_rfl
theorem zq0 : prog.cellsOf 22 = 1 := by kernel_rfl
section
variable {H : Type}{enc : TypeId × Value → H}{w : World}{base b0 : Nat}{re : Reach}{spare : Nat → Bool}{held : Bool}
theorem zq1 {v : Value}{d : DataW H}{p : List MemPlace}(hv : Value.okWide prog w re b0 24 v)(h : DataW.Trod enc prog w base spare held 24 v d p) :
  ∃ c A n cap l,v = .agg #[.int .i64 c,.slice A n cap] ∧ zcJ w w.heap.size A n l ∧ n ≤ cap ∧ n < 9223372036854775808 ∧ I64 c := by
 obtain ⟨cs,rfl,hsz⟩ := okWide_struct underlying24 hv;obtain ⟨l⟩ := cs
 match l,hsz.trans zqY with
 | [c0,c1],_ =>
  obtain ⟨fuel,hf⟩ := h;obtain ⟨xs,n,_,hx,_,hlen,hg⟩ := DataW.trod_struct underlying24 hf;have g0 := hg 0 _ rfl;have g1 := hg 1 _ rfl
  match xs,hlen with
  | [y0,y1],_ =>
   simp only [zqZ,zq0,Value.cells] at g0 g1;obtain ⟨s,hs0,_,hw⟩ := DataW.trod_int (cs := [c0]) underlying3 g0;injection hs0 with hs0 _
   subst hs0;have hb := bounds_i64 hw
   rcases DataW.trod_slice (cs := [c1]) underlying22 g1 with ⟨hc,_⟩ | ⟨a,len,cap,_,_,_,_,hc,_⟩
   ·injection hc with hc _
    subst hc;exact ⟨s,none,0,0,[],rfl,⟨rfl,by simp,zaU.none_⟩,ztn _,by omega,by unfold I64; omega⟩
   ·injection hc with hc _
    subst hc;obtain ⟨rows,hr,hA,hR,hc,hm⟩ := zhO (A := some a) (n := len) (c := cap) underlying22 zqO (by decide) g1;obtain ⟨l,h1,h2,h3⟩ := znc rows hA;rw [h3] at hR;unfold maxLen at hm;exact ⟨s,some a,len,cap,l,rfl,⟨by omega,h2,hR⟩,hc,by omega,by unfold I64; omega⟩
end
end
section
open Go.RowKit Go.WideShapes Go.ChangeShapes Go.Deep
theorem zsq : zcy prog 4 31 = some [some .u64] := by kernel_rfl
theorem zny : ∀ rows : List (List Value),(∀ r ∈ rows,zdb [some .u64] r) → ∃ l : List Int,l.length = rows.length ∧ (∀ x ∈ l,U64 x) ∧ rows.flatten = l.map (Value.int .u64)
 | [],_ => ⟨[],rfl,by simp,rfl⟩
 | r :: t,h => by
  obtain ⟨l,h1,h2,h3⟩ := zny t (fun q hq => h q (by simp [hq]));obtain ⟨hl,hk⟩ := h r (by simp)
  match r,hl with
  | [c0],_ =>
   obtain ⟨n0,rfl,w0⟩ := hk 0 _ _ rfl rfl;have a0 := bounds_u64 w0;refine ⟨n0 :: l,by simp [h1],fun y hy => ?_,by simp [h3]⟩
   rcases ztM.1 hy with rfl | hy
   ·unfold U64; omega
   ·exact h2 y hy
section
variable {H : Type}{enc : TypeId × Value → H}{w : World}{base b0 : Nat}{re : Reach}{spare : Nat → Bool}{held : Bool}
theorem zpi {v : Value}{d : DataW H}{p : List MemPlace}(hv : Value.okWide prog w re b0 26 v)(h : DataW.Trod enc prog w base spare held 26 v d p) :
  ∃ A n cap,∃ l : List Int,v = .slice A n cap ∧ (l.length = n ∧ (∀ x ∈ l,U64 x) ∧ zaU w w.heap.size 1 A n (l.map (Value.int .u64))) ∧ n ≤ cap ∧ n < 9223372036854775808 := by
 obtain ⟨fuel,hf⟩ := h
 rcases DataW.trod_slice underlying26 hf with ⟨hc,_⟩ | ⟨a,len,cap,_,_,_,_,hc,_⟩
 ·have hv0 : v = .slice none 0 0 := by
   obtain ⟨A,n,c,rfl⟩ := okWide_slice underlying26 hv;simp [Value.cells] at hc;simp [hc]
  subst hv0;exact ⟨none,0,0,[],rfl,⟨rfl,by simp,zaU.none_⟩,ztn _,by omega⟩
 ·obtain ⟨A,n,c,rfl⟩ := okWide_slice underlying26 hv
  have hf' : DataW.trod enc prog w base spare held fuel 26 [.slice A n c] = some (d,p) := by simpa [Value.cells] using hf
  obtain ⟨rows,hr,hA,hR,hc',hm⟩ := zhO (A := A) (n := n) (c := c) underlying26 zsq (by decide) hf';obtain ⟨l,h1,h2,h3⟩ := zny rows hA;rw [h3] at hR;unfold maxLen at hm;exact ⟨A,n,c,l,rfl,⟨by omega,h2,hR⟩,hc',by omega⟩
end
end
end Go.Proofs.YtepagfkkjlbipaaGreat
