/-
  Parts of the proof of SymbcRuns. Conditions: those written in each statement.
-/
import Derived.Test.YtepagfkkjlbipaaGreatKad
import Derived.Laws.EntriesVeiled
set_option linter.unusedVariables false
set_option linter.unusedSimpArgs false
set_option maxHeartbeats 64000000
set_option maxRecDepth 100000
namespace Go.Proofs.YtepagfkkjlbipaaGreat
open Go.RowKit
open Tryz
section
abbrev RS := PS × Int × Int
def putR (p : PS)(t : TD) : RS := (zcm p t,(zcP p t).1,(zcP p t).2)
def atP (T : List TD)(n : Int) : TD := if zal T n = true then T.getD n.toNat zbi else zbi
def zaf (n : Int) : TD := ⟨0,0,0,n,0,0,0⟩
def zao (w v : Int) : Int := if w = 8 then v % 256 else if w = 16 then v % 65536 else if w = 32 then v % 4294967296 else v
def zcb (w : Int) : Bool := w == 32 || w == 64
def zbY (T : List TD)(n w : Int) : Bool :=
 let t := atP T n
 if w = 64 ∨ t.kind = 4 then true
 else if t.kind = 0 then decide (t.n = zao w t.n)
 else if t.kind = 3 ∨ t.kind = 1 then decide (t.w ≤ w)
 else decide (t.kind = 2 ∧ t.w = 32 ∧ w = 32)
def zbw : Nat → PS → Int → Int → Option RS
 | 0,_,_,_ => none
 | f + 1,p,w,a =>
  let t := atP p.T a
  if w = 64 then some (p,a,0)
  else if t.kind = 0 then some (putR p (zaf (zao w t.n)))
  else if zbY p.T a w = true then some (p,a,0)
  else if t.kind = 3 then zbw f p w t.a
  else some (putR p ⟨3,0,w,0,a,0,0⟩)
def zah (p : PS)(w a : Int) : RS :=
 let t := atP p.T a
 if t.kind = 0 then putR p (zaf (zao w t.n))
 else if w = 32 ∧ t.kind = 3 ∧ t.w = 32 then (p,t.a,0)
 else (p,a,0)
def zaj (p : PS)(w a b : Int) : PS × Int × Int × Int :=
 let r := zah p w a
 if r.2.2 = 0 then let s := zah r.1 w b; (s.1,r.2.1,s.2.1,s.2.2) else (r.1,r.2.1,0,r.2.2)
end
section
section
variable {W : World}{b1 b2 s1 s2 n1 n2 m : Nat}{e1 e2 : TypeId}{v1 v2 : Value}{xs ys : List Value}
theorem zcT (h : W.ownsRow b1 e1 s1 v1 n1 xs)(h2 : W.ownsRow b2 e2 s2 v2 n2 ys)(hne : e1 ≠ e2){r : Nat}(h3 : v1.ownBlock = some r) : v2.ownBlock ≠ some r := by
 intro h4
 rcases h.2 with ⟨q,_⟩ | ⟨g,cap,cur,q1,_,q3,_⟩
 ·rw [q] at h3; simp [Value.ownBlock] at h3
 ·rcases h2.2 with ⟨q,_⟩ | ⟨g',cap',cur',r1,_,r3,_⟩
  ·rw [q] at h4; simp [Value.ownBlock] at h4
  ·rw [q1] at h3
   rw [r1] at h4;simp [Value.ownBlock] at h3 h4;rw [h3] at q3;rw [h4,q3] at r3;injection r3 with r3
   injection r3 with _ r3
   exact hne r3
theorem zbI {κ : Type}{P : Program}{k : TypeId}{enc : κ → Value}{V : κ → Prop}{f : κ → Option Value}(h : W.ownsRow b1 e1 s1 v1 n1 xs)(h2 : zaR P k enc V W b2 m f) : v1.ownBlock ≠ some b2 := by
 intro h3;obtain ⟨es,c,h4,_⟩ := h2
 rcases h.2 with ⟨q,_⟩ | ⟨g,cap,cur,q1,_,q3,_⟩
 ·rw [q] at h3; simp [Value.ownBlock] at h3
 ·rw [q1] at h3
  simp [Value.ownBlock] at h3;rw [h3,h4] at q3;injection q3 with q3
  cases q3
theorem zbh {κ : Type}{P : Program}{k : TypeId}{enc : κ → Value}{V : κ → Prop}{f : κ → Option Value}{g : Nat}{t : TypeId}{cs : Array Value}(h : Blk W g t cs)(h2 : zaR P k enc V W b2 m f) : g ≠ b2 := by
 rintro rfl;obtain ⟨es,c,h4,_⟩ := h2;unfold Blk at h;rw [h] at h4;injection h4 with h4
 cases h4
end
theorem zbH {W : World}{g : Nat}{e : TypeId}{xs : List Value}(h : Blk W g e xs.toArray)(n size : Nat)(hn : xs.length = n * size) : zaU W W.heap.size size (some ⟨g,0,none⟩) n xs :=
 ⟨hn,fun _ => ⟨_,rfl,h.lt,zak h⟩⟩
structure RF (base g bt o v : Nat)(F : Nat → Prop)(p : PS)(t : TD)(w : World)(a0 a1 x y : Value)(nx ny m : Nat)(xs ys : List Value)(fo : TD → Option Value)(mw : Nat)(fw : Int → Option Value)(W : World) : Prop where
 box : Blk W bt 147 t.cells.toArray
 pool : Blk W g 102 #[a0,a1,.map (some o),.map (some v)]
 rx : W.ownsRow base 147 7 x nx xs
 ry : W.ownsRow base 3 1 y ny ys
 mo : zaR prog 147 zaw TD.wf W o m fo
 mv : zaR prog 31 (Value.int .u64) U64 W v mw fw
 st : zc3 W o
 chg : Chg F w W
 ox : ∀ b,x.ownBlock = some b → F b ∨ w.heap.size < b
 oy : ∀ b,y.ownBlock = some b → F b ∨ w.heap.size < b
 fg : F g
 fo_ : F o
 fv : F v
 bt : bt = w.heap.size
 old : ∀ b,F b → b < w.heap.size
 ov : o ≠ v ∧ w.cell? ⟨g,2,none⟩ = some (.map (some o)) ∧ w.cell? ⟨g,3,none⟩ = some (.map (some v))
section
variable {base g bt o v nx ny m : Nat}{F : Nat → Prop}{p : PS}{t : TD}{w W V : World}{a0 a1 x y : Value}{xs ys : List Value}{fo : TD → Option Value}{mw : Nat}{fw : Int → Option Value}
theorem RF.lt (h : RF base g bt o v F p t w a0 a1 x y nx ny m xs ys fo mw fw W) : w.heap.size < W.heap.size := by have := h.box.lt; rw [h.bt] at this; exact this
theorem RF.step (h : RF base g bt o v F p t w a0 a1 x y nx ny m xs ys fo mw fw W)(hb : Below W.heap.size W V) : RF base g bt o v F p t w a0 a1 x y nx ny m xs ys fo mw fw V where
 box := h.box.below hb h.box.lt
 pool := h.pool.below hb h.pool.lt
 rx := zaG h.rx fun r q => hb.block r (zaQ h.rx r q).2
 ry := zaG h.ry fun r q => hb.block r (zaQ h.ry r q).2
 mo := h.mo.below hb h.mo.lt
 mv := h.mv.below hb h.mv.lt
 st := h.st.block_ (hb.block o h.mo.lt)
 chg := h.chg.trans (Chg.of_below (F := fun _ => False) hb) (fun _ q => q.elim)
 ox := h.ox
 oy := h.oy
 fg := h.fg
 fo_ := h.fo_
 fv := h.fv
 bt := h.bt
 old := h.old
 ov := h.ov
theorem RF.g_bt (h : RF base g bt o v F p t w a0 a1 x y nx ny m xs ys fo mw fw W) : g ≠ bt := by have := h.old g h.fg; rw [h.bt]; omega
theorem RF.appx {x' : Value}{n' : Nat}{xs' : List Value}(h : RF base g bt o v F p t w a0 a1 x y nx ny m xs ys fo mw fw W)(hx : ∀ b,x.ownBlock = some b → F b)(hr : V.ownsRow base 147 7 x' n' xs')(hg : W.grownBy V x.ownBlock)(hb : x'.ownBlock = x.ownBlock ∨ x'.ownBlock = some W.heap.size) :
  RF base g bt o v F p t w a0 a1 x' y n' ny m xs' ys fo mw fw V where
 box := h.box.grown hg fun e => by have := h.old _ (hx _ e.symm); rw [h.bt] at this; omega
 pool := h.pool.grown hg fun e => zcf h.rx h.pool (by decide) e.symm
 rx := hr
 ry := zaG h.ry fun r q => hg.block r (zaQ h.ry r q).2 fun e => zcT h.rx h.ry (by decide) e.symm q
 mo := h.mo.grown hg fun e => zbI h.rx h.mo e.symm
 mv := h.mv.grown hg fun e => zbI h.rx h.mv e.symm
 st := h.st.block_ (hg.block o h.mo.lt fun e => zbI h.rx h.mo e.symm)
 chg := h.chg.trans (Chg.of_grown (F := F) hg fun r e => .inl (hx r e)) fun b q => .inl q
 ox := fun b q => by
  rcases hb with e | e
  ·rw [e] at q; exact h.ox b q
  ·rw [e] at q; injection q with q; have := h.lt; exact .inr (by omega)
 oy := h.oy
 fg := h.fg
 fo_ := h.fo_
 fv := h.fv
 bt := h.bt
 old := h.old
 ov := h.ov
theorem RF.appy {y' : Value}{n' : Nat}{ys' : List Value}(h : RF base g bt o v F p t w a0 a1 x y nx ny m xs ys fo mw fw W)(hy : ∀ b,y.ownBlock = some b → F b)(hr : V.ownsRow base 3 1 y' n' ys')(hg : W.grownBy V y.ownBlock)(hb : y'.ownBlock = y.ownBlock ∨ y'.ownBlock = some W.heap.size) :
  RF base g bt o v F p t w a0 a1 x y' nx n' m xs ys' fo mw fw V where
 box := h.box.grown hg fun e => by have := h.old _ (hy _ e.symm); rw [h.bt] at this; omega
 pool := h.pool.grown hg fun e => zcf h.ry h.pool (by decide) e.symm
 rx := zaG h.rx fun r q => hg.block r (zaQ h.rx r q).2 fun e => zcT h.ry h.rx (by decide) e.symm q
 ry := hr
 mo := h.mo.grown hg fun e => zbI h.ry h.mo e.symm
 mv := h.mv.grown hg fun e => zbI h.ry h.mv e.symm
 st := h.st.block_ (hg.block o h.mo.lt fun e => zbI h.ry h.mo e.symm)
 chg := h.chg.trans (Chg.of_grown (F := F) hg fun r e => .inl (hy r e)) fun b q => .inl q
 ox := h.ox
 oy := fun b q => by
  rcases hb with e | e
  ·rw [e] at q; exact h.oy b q
  ·rw [e] at q; injection q with q; have := h.lt; exact .inr (by omega)
 fg := h.fg
 fo_ := h.fo_
 fv := h.fv
 bt := h.bt
 old := h.old
 ov := h.ov
theorem RF.set {b0 b1 : Value}(h : RF base g bt o v F p t w a0 a1 x y nx ny m xs ys fo mw fw W)(hB : Blk V g 102 #[b0,b1,.map (some o),.map (some v)])(hg : W.grownBy V (some g)) : RF base g bt o v F p t w b0 b1 x y nx ny m xs ys fo mw fw V where
 box := h.box.grown hg fun e => by injection e with e; exact h.g_bt e.symm
 pool := hB
 rx := zaG h.rx fun r q => hg.block r (zaQ h.rx r q).2 fun e => by injection e with e; subst e; exact zcf h.rx h.pool (by decide) q
 ry := zaG h.ry fun r q => hg.block r (zaQ h.ry r q).2 fun e => by injection e with e; subst e; exact zcf h.ry h.pool (by decide) q
 mo := h.mo.grown hg fun e => by injection e with e; exact zbh h.pool h.mo e.symm
 mv := h.mv.grown hg fun e => by injection e with e; exact zbh h.pool h.mv e.symm
 st := h.st.block_ (hg.block o h.mo.lt fun e => by injection e with e; exact zbh h.pool h.mo e.symm)
 chg := h.chg.trans (Chg.of_grown (F := F) hg fun r e => by injection e with e; subst e; exact .inl h.fg) fun b q => .inl q
 ox := h.ox
 oy := h.oy
 fg := h.fg
 fo_ := h.fo_
 fv := h.fv
 bt := h.bt
 old := h.old
 ov := h.ov
theorem RF.mapo {m' : Nat}{f' : TD → Option Value}(h : RF base g bt o v F p t w a0 a1 x y nx ny m xs ys fo mw fw W)(hm : zaR prog 147 zaw TD.wf V o m' f')(hs : zc3 V o)(hg : W.grownBy V (some o)) : RF base g bt o v F p t w a0 a1 x y nx ny m' xs ys f' mw fw V where
 box := h.box.grown hg fun e => by injection e with e; exact zbh h.box h.mo e
 pool := h.pool.grown hg fun e => by injection e with e; exact zbh h.pool h.mo e
 rx := zaG h.rx fun r q => hg.block r (zaQ h.rx r q).2 fun e => by injection e with e; subst e; exact zbI h.rx h.mo q
 ry := zaG h.ry fun r q => hg.block r (zaQ h.ry r q).2 fun e => by injection e with e; subst e; exact zbI h.ry h.mo q
 mo := hm
 mv := h.mv.grown hg fun e => by injection e with e; exact h.ov.1 e.symm
 st := hs
 chg := h.chg.trans (Chg.of_grown (F := F) hg fun r e => by injection e with e; subst e; exact .inl h.fo_) fun b q => .inl q
 ox := h.ox
 oy := h.oy
 fg := h.fg
 fo_ := h.fo_
 fv := h.fv
 bt := h.bt
 old := h.old
 ov := h.ov
theorem RF.mapv {m' : Nat}{f' : Int → Option Value}(h : RF base g bt o v F p t w a0 a1 x y nx ny m xs ys fo mw fw W)(hm : zaR prog 31 (Value.int .u64) U64 V v m' f')(hg : W.grownBy V (some v)) : RF base g bt o v F p t w a0 a1 x y nx ny m xs ys fo m' f' V where
 box := h.box.grown hg fun e => by injection e with e; exact zbh h.box h.mv e
 pool := h.pool.grown hg fun e => by injection e with e; exact zbh h.pool h.mv e
 rx := zaG h.rx fun r q => hg.block r (zaQ h.rx r q).2 fun e => by injection e with e; subst e; exact zbI h.rx h.mv q
 ry := zaG h.ry fun r q => hg.block r (zaQ h.ry r q).2 fun e => by injection e with e; subst e; exact zbI h.ry h.mv q
 mo := h.mo.grown hg fun e => by injection e with e; exact h.ov.1 e
 mv := hm
 st := h.st.block_ (hg.block o h.mo.lt fun e => by injection e with e; exact h.ov.1 e)
 chg := h.chg.trans (Chg.of_grown (F := F) hg fun r e => by injection e with e; subst e; exact .inl h.fv) fun b q => .inl q
 ox := h.ox
 oy := h.oy
 fg := h.fg
 fo_ := h.fo_
 fv := h.fv
 bt := h.bt
 old := h.old
 ov := h.ov
theorem RF.mapw {m' : Nat}{f f' : Int → Option Value}(h : RF base g bt o v F p t w a0 a1 x y nx ny m xs ys fo mw fw W)(hm : zaR prog 31 (Value.int .u64) U64 W v m' f)(hf : ∀ q,f' q = f q) : RF base g bt o v F p t w a0 a1 x y nx ny m xs ys fo m' f' W where
 box := h.box
 pool := h.pool
 rx := h.rx
 ry := h.ry
 mo := h.mo
 mv := hm.congr hf
 st := h.st
 chg := h.chg
 ox := h.ox
 oy := h.oy
 fg := h.fg
 fo_ := h.fo_
 fv := h.fv
 bt := h.bt
 old := h.old
 ov := h.ov
theorem RF.fin {d : Int}(h : RF base g bt o v F p t w x y x y (p.T.length + 1) (p.T.length + 1) (p.T.length + 1) (p.T.flatMap TD.cells ++ t.cells) (p.D.map (Value.int .i64) ++ [.int .i64 d]) (zeC (ofF p.T) t (.int .i64 (p.T.length : Nat))) (p.T.length + 1) (wdF (p.T ++ [t])) W)
  (hwf : WfP ⟨p.T ++ [t],p.D ++ [d]⟩) (hr : ∀ u ∈ p.T,u.wf) (ht : t.wf) (hn : atT p.T t = none) (hfb : ∀ b,F b → base ≤ b) (hbase : base ≤ w.heap.size) :
  zam W base (fun b => F b ∨ (w.heap.size ≤ b ∧ b < W.heap.size)) g ⟨p.T ++ [t],p.D ++ [d]⟩ where
 ex := by
  refine ⟨x,y,o,v,h.pool,?_,?_,?_,?_,h.st,h.ov.1,.inl h.fg,.inl h.fo_,.inl h.fv,fun b q => ?_,fun b q => ?_⟩
  ·simpa using h.rx
  ·simpa using h.ry
  ·have := h.mo.congr (zqI hn)
   simpa using this
  ·simpa using h.mv
  ·have := (zaQ h.rx b q).2
   exact (h.ox b q).imp id fun e => ⟨by omega,this⟩
  ·have := (zaQ h.ry b q).2
   exact (h.oy b q).imp id fun e => ⟨by omega,this⟩
 wf := hwf
 rng := fun u hu => by
  rcases List.mem_append.1 hu with q | q
  ·exact hr u q
  ·simp at q; rw [q]; exact ht
 fb := fun b q => by
  rcases q with q | q
  ·have := h.old b q
   have := h.lt;exact ⟨hfb b q,by omega⟩
  ·exact ⟨by omega,q.2⟩
end
end
section
theorem zeu {k : IntKind}{a b : Int}(h : a = b) : Ending.returned (.int k a) = .returned (.int k b) := by rw [h]
theorem zbD (v x : Int)(w : World) : Calls prog 97 #[.int .u64 v,.int .i8 x] w fun e w' => e = .returned (.int .u64 (zao x v)) ∧ w = w' := by
 cases h8 : (x == 8)
 ·cases h16 : (x == 16)
  ·cases h32 : (x == 32)
   ·have e : zao x v = v := by simp at h8 h16 h32; unfold zao; simp [h8,h16,h32]
    rw [e];go_enter func97,ntmps97;go_wp2;go_ret;exact ⟨rfl,rfl⟩
   ·obtain rfl : x = 32 := by simpa using h32
    go_enter func97,ntmps97;go_wp2;go_ret;exact ⟨rfl,rfl⟩
  ·obtain rfl : x = 16 := by simpa using h16
   go_enter func97,ntmps97;go_wp2;go_ret;exact ⟨zeu (by rw [IntKind.wrap_u64,IntKind.wrap_u16]; unfold zao; simp; omega),rfl⟩
 ·obtain rfl : x = 8 := by simpa using h8
  go_enter func97,ntmps97;go_wp2;go_ret;exact ⟨rfl,rfl⟩
theorem zdz (x : Int)(w : World) : Calls prog 148 #[.int .i8 x] w fun e w' => e = .returned (.bool (zcb x)) ∧ w = w' := by
 cases h32 : (x == 32)
 ·go_enter func148,ntmps148
  go_wp2;go_ret;exact ⟨by unfold zcb; simp [h32],rfl⟩
 ·go_enter func148,ntmps148
  go_wp2;go_ret;exact ⟨by unfold zcb; simp [h32],rfl⟩
def zbj (x v : Int) : Int := if x = 8 then IntKind.u64.wrap (wrap64 (IntKind.i8.wrap v)) else if x = 16 then IntKind.u64.wrap (wrap64 (IntKind.i16.wrap v)) else if x = 32 then IntKind.u64.wrap (wrap64 (wrap32 v)) else v
theorem zhp (v x : Int)(w : World) : Calls prog 152 #[.int .u64 v,.int .i8 x] w fun e w' => e = .returned (.int .u64 (zbj x v)) ∧ w = w' := by
 cases h8 : (x == 8)
 ·cases h16 : (x == 16)
  ·cases h32 : (x == 32)
   ·have e : zbj x v = v := by simp at h8 h16 h32; unfold zbj; simp [h8,h16,h32]
    rw [e];go_enter func152,ntmps152;go_wp2;go_ret;exact ⟨rfl,rfl⟩
   ·obtain rfl : x = 32 := by simpa using h32
    go_enter func152,ntmps152;go_wp2;go_ret;exact ⟨rfl,rfl⟩
  ·obtain rfl : x = 16 := by simpa using h16
   go_enter func152,ntmps152;go_wp2;go_ret;exact ⟨rfl,rfl⟩
 ·obtain rfl : x = 8 := by simpa using h8
  go_enter func152,ntmps152;go_wp2;go_ret;exact ⟨rfl,rfl⟩
theorem ztb {op x : Int}(a b : Int)(w : World)(h : op < 0 ∨ 12 < op ∨ zcb x = false) : Calls prog 98 #[.int .i8 op,.int .i8 x,.int .u64 a,.int .u64 b] w fun e w' => e = .returned (.tuple #[.int .u64 0,.int .i64 2]) ∧ w = w' := by
 cases h1 : decide (op < 0)
 ·cases h2 : decide (12 < op)
  ·have HL := Hd (show zcb x = false by simp at h1 h2; rcases h with h | h | h <;> first | exact h | omega)
   clear h;go_enter func98,ntmps98;go_wp2_with fail
   refine (zdz x _).mono ?_;rintro e w' ⟨rfl,rfl⟩;rw [HL.out];go_wp2;go_ret2;exact ⟨rfl,rfl⟩
  ·clear h
   go_enter func98,ntmps98;go_wp2;go_ret2;exact ⟨rfl,rfl⟩
 ·clear h
  go_enter func98,ntmps98;go_wp2;go_ret2;exact ⟨rfl,rfl⟩
def zh5 : List Value := [.func (.func 159) #[] #[],.func (.func 160) #[] #[],.func (.func 161) #[] #[],.func (.func 162) #[] #[],.func (.func 163) #[] #[],.func (.func 164) #[] #[],.func (.func 165) #[] #[],.func (.func 166) #[] #[],.func (.func 167) #[] #[],.func (.func 168) #[] #[],.func (.func 169) #[] #[],.func (.func 170) #[] #[],.func (.func 171) #[] #[]]
theorem zmy (w : World) : Calls prog 149 #[] w fun e w' => e = .returned (.agg zh5.toArray) ∧ Below w.heap.size w w' := by
 have hb := Blk.new w 197 zh5.toArray;have hrl := zaC (P := prog) _ ⟨w.heap.size,0,none⟩ 197 zh5 _ (zak hb) underlying197 rfl (by kernel_rfl);unfold zh5 at hrl ⊢;go_enter func149,ntmps149;go_wp2;exact bodyPost_ret (by simp [results,results149,Act.put,asAddr,Result.andThen,hrl]) rfl ⟨rfl,(Below.refl _ _).alloc (ztn _) _⟩
end
section
def doV (op a b y x : Int) : Int :=
 if op = 0 then IntKind.u64.wrap (a + b)
 else if op = 1 then IntKind.u64.wrap (a - b)
 else if op = 2 then IntKind.u64.wrap (a * b)
 else if op = 3 then (if b = 0 then 0 else IntKind.u64.wrap (a.tdiv b))
 else if op = 4 then bits .or .u64 a b
 else if op = 5 then bits .and .u64 a b
 else if op = 6 then IntKind.u64.wrap (a * 2 ^ y.toNat)
 else if op = 7 then a / 2 ^ y.toNat
 else if op = 8 then IntKind.u64.wrap (-a)
 else if op = 9 then (if b = 0 then a else a.tmod b)
 else if op = 10 then bits .xor .u64 a b
 else if op = 11 then b
 else IntKind.u64.wrap (wrap64 (zbj x a) / 2 ^ y.toNat)
theorem opc1 (a b y x : Int)(w : World) : Calls prog 159 #[.int .u64 a,.int .u64 b,.int .u64 y,.int .i8 x] w fun e w' => e = .returned (.int .u64 (doV 0 a b y x)) ∧ w = w' := by
 go_enter func159,ntmps159;go_wp2;go_ret;exact ⟨rfl,rfl⟩
theorem opc2 (a b y x : Int)(w : World) : Calls prog 160 #[.int .u64 a,.int .u64 b,.int .u64 y,.int .i8 x] w fun e w' => e = .returned (.int .u64 (doV 1 a b y x)) ∧ w = w' := by
 go_enter func160,ntmps160;go_wp2;go_ret;exact ⟨rfl,rfl⟩
theorem opc3 (a b y x : Int)(w : World) : Calls prog 161 #[.int .u64 a,.int .u64 b,.int .u64 y,.int .i8 x] w fun e w' => e = .returned (.int .u64 (doV 2 a b y x)) ∧ w = w' := by
 go_enter func161,ntmps161;go_wp2;go_ret;exact ⟨rfl,rfl⟩
theorem opc4 (a b y x : Int)(w : World) : Calls prog 162 #[.int .u64 a,.int .u64 b,.int .u64 y,.int .i8 x] w fun e w' => e = .returned (.int .u64 (doV 3 a b y x)) ∧ w = w' := by
 cases hb : (b == 0)
 ·have hb' : b ≠ 0 := by simpa using hb
  go_enter func162,ntmps162;go_wp2;go_ret;exact ⟨zeu (by unfold doV; simp [hb']),rfl⟩
 ·obtain rfl : b = 0 := by simpa using hb
  go_enter func162,ntmps162;go_wp2;go_ret;exact ⟨rfl,rfl⟩
theorem opc5 (a b y x : Int)(w : World) : Calls prog 163 #[.int .u64 a,.int .u64 b,.int .u64 y,.int .i8 x] w fun e w' => e = .returned (.int .u64 (doV 4 a b y x)) ∧ w = w' := by
 go_enter func163,ntmps163;go_wp2;go_ret;exact ⟨rfl,rfl⟩
theorem opc6 (a b y x : Int)(w : World) : Calls prog 164 #[.int .u64 a,.int .u64 b,.int .u64 y,.int .i8 x] w fun e w' => e = .returned (.int .u64 (doV 5 a b y x)) ∧ w = w' := by
 go_enter func164,ntmps164;go_wp2;go_ret;exact ⟨rfl,rfl⟩
theorem opc7 (a b y x : Int)(w : World)(h0 : 0 ≤ y)(h1 : y < 64) : Calls prog 165 #[.int .u64 a,.int .u64 b,.int .u64 y,.int .i8 x] w fun e w' => e = .returned (.int .u64 (doV 6 a b y x)) ∧ w = w' := by
 go_enter func165,ntmps165;go_wp2;go_ret;exact ⟨rfl,rfl⟩
theorem opc8 (a b y x : Int)(w : World)(h0 : 0 ≤ y)(h1 : y < 64) : Calls prog 166 #[.int .u64 a,.int .u64 b,.int .u64 y,.int .i8 x] w fun e w' => e = .returned (.int .u64 (doV 7 a b y x)) ∧ w = w' := by
 go_enter func166,ntmps166;go_wp2;go_ret;exact ⟨rfl,rfl⟩
theorem opc9 (a b y x : Int)(w : World) : Calls prog 167 #[.int .u64 a,.int .u64 b,.int .u64 y,.int .i8 x] w fun e w' => e = .returned (.int .u64 (doV 8 a b y x)) ∧ w = w' := by
 go_enter func167,ntmps167;go_wp2;go_ret;exact ⟨rfl,rfl⟩
theorem zrL (a b y x : Int)(w : World) : Calls prog 168 #[.int .u64 a,.int .u64 b,.int .u64 y,.int .i8 x] w fun e w' => e = .returned (.int .u64 (doV 9 a b y x)) ∧ w = w' := by
 cases hb : (b == 0)
 ·have hb' : b ≠ 0 := by simpa using hb
  go_enter func168,ntmps168;go_wp2;go_ret;exact ⟨zeu (by unfold doV; simp [hb']),rfl⟩
 ·obtain rfl : b = 0 := by simpa using hb
  go_enter func168,ntmps168;go_wp2;go_ret;exact ⟨rfl,rfl⟩
theorem zrM (a b y x : Int)(w : World) : Calls prog 169 #[.int .u64 a,.int .u64 b,.int .u64 y,.int .i8 x] w fun e w' => e = .returned (.int .u64 (doV 10 a b y x)) ∧ w = w' := by
 go_enter func169,ntmps169;go_wp2;go_ret;exact ⟨rfl,rfl⟩
theorem zrN (a b y x : Int)(w : World) : Calls prog 170 #[.int .u64 a,.int .u64 b,.int .u64 y,.int .i8 x] w fun e w' => e = .returned (.int .u64 (doV 11 a b y x)) ∧ w = w' := by
 go_enter func170,ntmps170;go_wp2;go_ret;exact ⟨rfl,rfl⟩
theorem zrO (a b y x : Int)(w : World)(h0 : 0 ≤ y)(h1 : y < 64) : Calls prog 171 #[.int .u64 a,.int .u64 b,.int .u64 y,.int .i8 x] w fun e w' => e = .returned (.int .u64 (doV 12 a b y x)) ∧ w = w' := by
 go_enter func171,ntmps171;go_wp2_with fail
 refine (zhp _ _ _).mono ?_;rintro e w' ⟨rfl,rfl⟩;go_wp2;go_ret;exact ⟨rfl,rfl⟩
theorem zpA (w : World) : (Instr.index 197 (.agg zh5.toArray) (.int .i8 0)).run prog w = .ok (.func (.func 159) #[] #[]) w := by kernel_rfl
theorem zpB (w : World) : (Instr.index 197 (.agg zh5.toArray) (.int .i8 1)).run prog w = .ok (.func (.func 160) #[] #[]) w := by kernel_rfl
theorem zpC (w : World) : (Instr.index 197 (.agg zh5.toArray) (.int .i8 2)).run prog w = .ok (.func (.func 161) #[] #[]) w := by kernel_rfl
theorem zpD (w : World) : (Instr.index 197 (.agg zh5.toArray) (.int .i8 3)).run prog w = .ok (.func (.func 162) #[] #[]) w := by kernel_rfl
theorem zpE (w : World) : (Instr.index 197 (.agg zh5.toArray) (.int .i8 4)).run prog w = .ok (.func (.func 163) #[] #[]) w := by kernel_rfl
theorem zpF (w : World) : (Instr.index 197 (.agg zh5.toArray) (.int .i8 5)).run prog w = .ok (.func (.func 164) #[] #[]) w := by kernel_rfl
theorem zpG (w : World) : (Instr.index 197 (.agg zh5.toArray) (.int .i8 6)).run prog w = .ok (.func (.func 165) #[] #[]) w := by kernel_rfl
theorem zpH (w : World) : (Instr.index 197 (.agg zh5.toArray) (.int .i8 7)).run prog w = .ok (.func (.func 166) #[] #[]) w := by kernel_rfl
theorem zpI (w : World) : (Instr.index 197 (.agg zh5.toArray) (.int .i8 8)).run prog w = .ok (.func (.func 167) #[] #[]) w := by kernel_rfl
theorem zmz (w : World) : (Instr.index 197 (.agg zh5.toArray) (.int .i8 9)).run prog w = .ok (.func (.func 168) #[] #[]) w := by kernel_rfl
theorem zmA (w : World) : (Instr.index 197 (.agg zh5.toArray) (.int .i8 10)).run prog w = .ok (.func (.func 169) #[] #[]) w := by kernel_rfl
theorem zmB (w : World) : (Instr.index 197 (.agg zh5.toArray) (.int .i8 11)).run prog w = .ok (.func (.func 170) #[] #[]) w := by kernel_rfl
theorem zmC (w : World) : (Instr.index 197 (.agg zh5.toArray) (.int .i8 12)).run prog w = .ok (.func (.func 171) #[] #[]) w := by kernel_rfl
def byV (x b : Int) : Int := bits .and .u64 (zao x b) (x - 1)
def doU (op x a b : Int) : Int := zao x (doV op (zao x a) (zao x b) (byV x b) x)
def zdp (op x : Int) : Bool := decide (0 ≤ op) && (decide (op ≤ 12) && zcb x)
theorem ziR {x b : Int}(hb : U64 b) : 0 ≤ zao x b ∧ zao x b < 18446744073709551616 ∧ zao x b ≤ b := by
 unfold U64 at hb;unfold zao
 split
 ·omega
 ·split
  ·omega
  ·split <;> omega
theorem zpJ {x b : Int}(hx : x = 32 ∨ x = 64)(hb : U64 b) : byV x b = zao x b % x := by
 have h := ziR (x := x) hb;unfold byV
 rcases hx with rfl | rfl
 ·exact bits_mask .u64 64 (by decide) (fun n h0 h1 => by rw [IntKind.wrap_u64]; omega) 5 (by decide) _ h.1 (by have := h.2.1; omega)
 ·exact bits_mask .u64 64 (by decide) (fun n h0 h1 => by rw [IntKind.wrap_u64]; omega) 6 (by decide) _ h.1 (by have := h.2.1; omega)
theorem zmD {x b : Int}(hx : x = 32 ∨ x = 64)(hb : U64 b) : 0 ≤ byV x b ∧ byV x b < 64 := by
 rw [zpJ hx hb]
 rcases hx with rfl | rfl <;> omega
theorem zmE {op x : Int}(h : zdp op x = false) : op < 0 ∨ 12 < op ∨ zcb x = false := by
 unfold zdp at h
 cases hl : zcb x
 ·exact .inr (.inr rfl)
 ·rw [hl] at h
  simp at h
  by_cases h0 : op < 0
  ·exact .inl h0
  ·exact .inr (.inl (by omega))
theorem zbE {op x : Int}(h : zdp op x = true) : (x = 32 ∨ x = 64) ∧ 0 ≤ op ∧ op ≤ 12 := by
 unfold zdp zcb at h;simp at h;omega
theorem zjN {op x : Int}(a b : Int)(w : World)(h : zdp op x = true)(hb : U64 b) : Calls prog 98 #[.int .i8 op,.int .i8 x,.int .u64 a,.int .u64 b] w fun e w' => e = .returned (.tuple #[.int .u64 (doU op x a b),.int .i64 0]) ∧ Below w.heap.size w w' := by
 obtain ⟨hx,h0,h1⟩ := zbE h;have HY := Hd (zmD hx hb)
 clear h hb;have hops : op = 0 ∨ op = 1 ∨ op = 2 ∨ op = 3 ∨ op = 4 ∨ op = 5 ∨ op = 6 ∨ op = 7 ∨ op = 8 ∨ op = 9 ∨ op = 10 ∨ op = 11 ∨ op = 12 := by omega
 clear h0 h1
 rcases hx with rfl | rfl
 ·rcases hops with rfl | rfl | rfl | rfl | rfl | rfl | rfl | rfl | rfl | rfl | rfl | rfl | rfl
  all_goals as_aux_lemma =>
   go_enter func98,ntmps98;go_wp2_with fail
   refine (zdz _ _).mono ?_;rintro e w' ⟨rfl,rfl⟩;go_wp2_with fail
   refine (zbD _ _ _).mono ?_;rintro e w' ⟨rfl,rfl⟩;go_wp2_with fail
   refine (zbD _ _ _).mono ?_;rintro e w' ⟨rfl,rfl⟩;go_wp2_with fail
   refine (zmy _).mono ?_;rintro e w' ⟨rfl,hb⟩;have HB := Hd hb
   clear hb;have i1 := zpA; have i2 := zpB; have i3 := zpC; have i4 := zpD; have i5 := zpE; have i6 := zpF; have i7 := zpG; have i8 := zpH; have i9 := zpI; have i10 := zmz; have i11 := zmA; have i12 := zmB; have i13 := zmC;go_wp2_with fail
   first | refine (opc1 _ _ (byV 32 b) _ _).mono ?_ | refine (opc2 _ _ (byV 32 b) _ _).mono ?_ | refine (opc3 _ _ (byV 32 b) _ _).mono ?_ | refine (opc4 _ _ (byV 32 b) _ _).mono ?_ | refine (opc5 _ _ (byV 32 b) _ _).mono ?_ | refine (opc6 _ _ (byV 32 b) _ _).mono ?_ | refine (opc7 _ _ (byV 32 b) _ _ HY.out.1 HY.out.2).mono ?_ | refine (opc8 _ _ (byV 32 b) _ _ HY.out.1 HY.out.2).mono ?_ | refine (opc9 _ _ (byV 32 b) _ _).mono ?_ | refine (zrL _ _ (byV 32 b) _ _).mono ?_ | refine (zrM _ _ (byV 32 b) _ _).mono ?_ | refine (zrN _ _ (byV 32 b) _ _).mono ?_ | refine (zrO _ _ (byV 32 b) _ _ HY.out.1 HY.out.2).mono ?_
   rintro e w' ⟨rfl,rfl⟩;go_wp2_with fail
   refine (zbD _ _ _).mono ?_;rintro e w' ⟨rfl,rfl⟩;go_wp2;go_ret2;exact ⟨rfl,HB.out⟩
 ·rcases hops with rfl | rfl | rfl | rfl | rfl | rfl | rfl | rfl | rfl | rfl | rfl | rfl | rfl
  all_goals as_aux_lemma =>
   go_enter func98,ntmps98;go_wp2_with fail
   refine (zdz _ _).mono ?_;rintro e w' ⟨rfl,rfl⟩;go_wp2_with fail
   refine (zbD _ _ _).mono ?_;rintro e w' ⟨rfl,rfl⟩;go_wp2_with fail
   refine (zbD _ _ _).mono ?_;rintro e w' ⟨rfl,rfl⟩;go_wp2_with fail
   refine (zmy _).mono ?_;rintro e w' ⟨rfl,hb⟩;have HB := Hd hb
   clear hb;have i1 := zpA; have i2 := zpB; have i3 := zpC; have i4 := zpD; have i5 := zpE; have i6 := zpF; have i7 := zpG; have i8 := zpH; have i9 := zpI; have i10 := zmz; have i11 := zmA; have i12 := zmB; have i13 := zmC;go_wp2_with fail
   first | refine (opc1 _ _ (byV 64 b) _ _).mono ?_ | refine (opc2 _ _ (byV 64 b) _ _).mono ?_ | refine (opc3 _ _ (byV 64 b) _ _).mono ?_ | refine (opc4 _ _ (byV 64 b) _ _).mono ?_ | refine (opc5 _ _ (byV 64 b) _ _).mono ?_ | refine (opc6 _ _ (byV 64 b) _ _).mono ?_ | refine (opc7 _ _ (byV 64 b) _ _ HY.out.1 HY.out.2).mono ?_ | refine (opc8 _ _ (byV 64 b) _ _ HY.out.1 HY.out.2).mono ?_ | refine (opc9 _ _ (byV 64 b) _ _).mono ?_ | refine (zrL _ _ (byV 64 b) _ _).mono ?_ | refine (zrM _ _ (byV 64 b) _ _).mono ?_ | refine (zrN _ _ (byV 64 b) _ _).mono ?_ | refine (zrO _ _ (byV 64 b) _ _ HY.out.1 HY.out.2).mono ?_
   rintro e w' ⟨rfl,rfl⟩;go_wp2_with fail
   refine (zbD _ _ _).mono ?_;rintro e w' ⟨rfl,rfl⟩;go_wp2;go_ret2;exact ⟨rfl,HB.out⟩
end
end Go.Proofs.YtepagfkkjlbipaaGreat
