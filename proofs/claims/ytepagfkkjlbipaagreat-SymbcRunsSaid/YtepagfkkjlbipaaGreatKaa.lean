/-
  Parts of the proof of SymbcRuns. Conditions: those written in each statement.
-/
import Derived.Test.YtepagfkkjlbipaaGreatZab
import Derived.WalkKit
import Derived.WalkSpells
import Derived.WalkLawsBesides
import Derived.ProofKit
import Derived.OpenShut
import Derived.ShutString
import Derived.Below
import Derived.Laws.OwnMore
import Derived.Deep.AppendLies
import Derived.Deep.Draws
import Derived.Laws.Rows
import Derived.Maps.AppendAt
import Derived.RegionTactic
import Derived.OwnWalk
import Derived.Deep.QuietTactic
import Derived.BigQuiet
import Derived.Deep.OwnRows
import Derived.Laws.AppendOwn
import Derived.Laws.MakeOwn
import Derived.Laws.Entries
import Derived.Laws.BitsAllLaws
import Derived.Laws.BitsLemmas
import Derived.Laws.BytesArg
import Derived.Lib.Strings
import Derived.ChangeSame
import Derived.Tactics
import Derived.Maps.Own
import Derived.Maps.OwnOps
import Derived.DeepKeys5
set_option linter.unusedVariables false
set_option linter.unusedSimpArgs false
set_option maxHeartbeats 64000000
set_option maxRecDepth 100000
namespace Go.Proofs.YtepagfkkjlbipaaGreat
open Go.RowKit
section
open Go.RowKit Go.WideShapes Go.ChangeShapes
theorem zaz (a : Addr)(n : Nat) : (a.add n).block = a.block := by unfold Addr.add; split <;> rfl
theorem za0 (a : Addr)(i j : Nat) : (a.add i).add j = a.add (i + j) := by
 unfold Addr.add
 by_cases hi : i = 0 <;> by_cases hj : j = 0 <;> simp [hi,hj,Nat.add_assoc]
def zaU (w : World)(B size : Nat)(A : Option Addr)(n : Nat)(xs : List Value) : Prop :=
 xs.length = n * size ∧ (0 < n → ∃ ad,A = some ad ∧ ad.block < B ∧ ∀ j u,xs[j]? = some u → w.cell? (ad.add j) = some u)
section
variable {w w' : World}{B B' size n : Nat}{A : Option Addr}{xs : List Value}
theorem zaU.none_ : zaU w B size A 0 [] := ⟨by simp,fun h => absurd h (by omega)⟩
theorem zaU.at_ {k : Nat}(h : zaU w B 1 A n xs)(hk : k < n) : ∃ ad u,A = some ad ∧ ad.block < B ∧ xs[k]? = some u ∧ w.cell? (ad.add k) = some u := by
 obtain ⟨ad,e,hb,hc⟩ := h.2 (by omega);have hl : k < xs.length := by have := h.1; omega
 exact ⟨ad,xs[k],e,hb,ztq hl,hc k _ (ztq hl)⟩
theorem zaU.keep (h : zaU w B size A n xs)(hk : ∀ p : Addr,p.block < B → w'.cell? p = w.cell? p) : zaU w' B size A n xs :=
 ⟨h.1,fun hn => by
  obtain ⟨ad,e,hb,hc⟩ := h.2 hn;exact ⟨ad,e,hb,fun j u hu => (hk _ (by rw [zaz]; exact hb)).trans (hc j u hu)⟩⟩
theorem zaU.more (h : zaU w B size A n xs)(hB : B ≤ B') : zaU w B' size A n xs :=
 ⟨h.1,fun hn => by
  obtain ⟨ad,e,hb,hc⟩ := h.2 hn;exact ⟨ad,e,by omega,hc⟩⟩
theorem zaU.below (h : zaU w B size A n xs)(hb : Below B w w') : zaU w' B size A n xs := h.keep fun _ hp => hb.cell hp
theorem zaU.alloc (h : zaU w B size A n xs)(hB : B ≤ w.heap.size)(o : Obj) : zaU (w.alloc o) B size A n xs := h.keep fun p hp => World.cell?_alloc_lt w o p (by omega)
theorem zaU.grown (h : zaU w B size A n xs){row : Option Nat}(hg : w.grownBy w' row)(hB : B ≤ w.heap.size)(hr : ∀ g,row = some g → B ≤ g) : zaU w' B size A n xs :=
 h.keep fun p hp => World.cell?_of_block (hg.block p.block (by omega) (fun e => by have := hr _ e.symm; omega))
end
def Blk (w : World)(g : Nat)(t : TypeId)(cs : Array Value) : Prop := w.heap[g]? = some (.cells cs t (0,0))
section
variable {w w' : World}{g : Nat}{t : TypeId}{cs : Array Value}
theorem Blk.lt (h : Blk w g t cs) : g < w.heap.size := by
 rcases ztH g w.heap.size with hlt | hge
 ·exact hlt
 ·unfold Blk at h; rw [Array.getElem?_eq_none hge] at h; cases h
theorem Blk.cell (h : Blk w g t cs)(i : Nat) : w.cell? ⟨g,i,none⟩ = cs[i]? := cell_of_row w g i cs t (0,0) h
theorem Blk.frozen (h : Blk w g t cs)(i : Nat) : w.frozen? ⟨g,i,none⟩ = false := by
 unfold Blk at h;simp [World.frozen?,h]
theorem Blk.new (w : World)(t : TypeId)(cs : Array Value) : Blk (w.alloc (.cells cs t)) w.heap.size t cs := heap_alloc_new w _
theorem Blk.drew (h : Blk w g t cs) : Blk w.drew g t cs := h
theorem Blk.alloc (h : Blk w g t cs)(o : Obj) : Blk (w.alloc o) g t cs := (Below.heap_alloc w o g h.lt).trans h
theorem Blk.set_ (h : Blk w g t cs)(i : Nat)(u : Value) : Blk (w.setCell ⟨g,i,none⟩ u) g t (cs.setIfInBounds i u) := by
 unfold Blk at h ⊢;simp [World.setCell,Array.getElem?_modify,h]
theorem Blk.far (h : Blk w g t cs){p : Addr}(hp : g ≠ p.block)(u : Value) : Blk (w.setCell p u) g t cs := (Below.heap_setCell w p u g hp).trans h
theorem Blk.below {B : Nat}(h : Blk w g t cs)(hb : Below B w w')(hg : g < B) : Blk w' g t cs := (hb.block g hg).trans h
theorem Blk.grown {row : Option Nat}(h : Blk w g t cs)(hb : w.grownBy w' row)(hg : some g ≠ row) : Blk w' g t cs := (hb.block g h.lt hg).trans h
theorem Blk.ne_ {g' : Nat}{t' : TypeId}{cs' : Array Value}(h : Blk w g t cs)(h' : Blk w g' t' cs')(hne : t ≠ t') : g ≠ g' := by
 rintro rfl;unfold Blk at h h';rw [h] at h';injection h' with h'
 injection h' with _ ht
 exact hne ht
theorem zcf {base : Nat}{e : TypeId}{size n : Nat}{v : Value}{xs : List Value}(h : w.ownsRow base e size v n xs)(hg : Blk w g t cs)(hne : e ≠ t) : v.ownBlock ≠ some g := by
 rcases h.2 with ⟨rfl,_⟩ | ⟨g',cap,cur,rfl,_,hh,_⟩
 ·simp [Value.ownBlock]
 ·intro he
  have : g' = g := by simpa [Value.ownBlock] using he
  subst this;exact Blk.ne_ (t := e) hh hg hne rfl
end
section
variable {P : Program}(w : World)
theorem ze4 (base : Nat)(t ty e : TypeId)(i : TypeInfo)(size : Nat)(ht : P.underlying t = some (.slice e))(hi : P.info? e = some i)
  (v : Value) (n : Nat) (xs : List Value) (hown : w.ownsRow base e size v n xs) (c : Nat) : (Builtin.append_ #[t,t] ty #[v,.slice none 0 c]).run P w = .ok v w := by
 rcases hown.2 with ⟨rfl,rfl⟩ | ⟨g,cap,cur,rfl,_,_,hnc,_⟩
 ·simp [Builtin.append_,run_underlying ht,sizeOf,typeInfo,hi,Builtin.lenOf,Builtin.firstCells]
 ·simp [Builtin.append_,run_underlying ht,sizeOf,typeInfo,hi,Builtin.lenOf,Builtin.firstCells,hnc,storeCells]
theorem zgs (base : Nat)(t ty e : TypeId)(i : TypeInfo)(z : Value)(size bytes : Nat)(ht : P.underlying t = some (.slice e))(hi : P.info? e = some i)(hz : i.zero = some z)
  (hsize : i.size = size) (hby : i.bytes = bytes) (hzs : z.cells.size = size) (hsz : 0 < size)
  (v : Value) (n : Nat) (xs : List Value) (hown : w.ownsRow base e size v n xs)
  (B : Nat) (A : Option Addr) (m c : Nat) (news : List Value) (hr : zaU w B size A m news) (h1 : ∀ u ∈ news,u.oneCell' = true)
  (h63 : n + m ≤ maxLen) (hbytes : (n + m) * bytes ≤ 140737488355328) (hbase : base ≤ w.heap.size) :
  ∃ v' w',(Builtin.append_ #[t,t] ty #[v,.slice A m c]).run P w = .ok v' w' ∧ w'.ownsRow base e size v' (n + m) (xs ++ news) ∧ w.grownBy w' v.ownBlock ∧
   (v'.ownBlock = v.ownBlock ∨ v'.ownBlock = some w.heap.size) := by
 rcases A with _ | ad
 ·have hm : m = 0 := by
   rcases zt9 m with h0 | h0
   ·exact h0
   ·obtain ⟨ad,h,_⟩ := hr.2 h0
    cases h
  subst hm;have hn : news = [] := List.eq_nil_of_length_eq_zero (by simpa using hr.1);subst hn;exact ⟨v,w,ze4 w base t ty e i size ht hi v n xs hown c,by simpa using hown,World.grownBy.refl w _,.inl rfl⟩
 ·have hcells : ∀ j u,news[j]? = some u → w.cell? (ad.add j) = some u := by
   intro j u hu
   rcases zt9 m with h0 | h0
   ·subst h0
    have hn : news = [] := List.eq_nil_of_length_eq_zero (by simpa using hr.1);subst hn;simp at hu
   ·obtain ⟨ad',h,_,hc⟩ := hr.2 h0
    injection h with h
    subst h;exact hc j u hu
  obtain ⟨v',w',hrun,h2,h3,_,h5⟩ := run_append_own_at (P := P) w base t ty e i z size bytes ht hi hz hsize hby hzs hsz v n xs hown ad m c news hr.1 hcells h1 h63 hbytes hbase;exact ⟨v',w',hrun,h2,h3,h5⟩
theorem zdC {o : Oper}{a : Act}{K : Act → World → Prop}{Q : Exit → Act → World → Prop}(s x : Operand)(t : TypeId)
  (ho : o.op = .call { callee := .builtin .append,args := #[s,x],argTypes := #[t,t] })
  (base : Nat) (e : TypeId) (i : TypeInfo) (z : Value) (size bytes : Nat) (ht : P.underlying t = some (.slice e)) (hi : P.info? e = some i) (hz : i.zero = some z)
  (hsize : i.size = size) (hby : i.bytes = bytes) (hzs : z.cells.size = size) (hsz : 0 < size)
  (v : Value) (n : Nat) (xs : List Value) (hs : a.eval s = v) (hown : w.ownsRow base e size v n xs)
  (B : Nat) (A : Option Addr) (m c : Nat) (news : List Value) (hx : a.eval x = .slice A m c) (hr : zaU w B size A m news) (h1 : ∀ u ∈ news,u.oneCell' = true)
  (h63 : n + m ≤ maxLen) (hbytes : (n + m) * bytes ≤ 140737488355328) (hbase : base ≤ w.heap.size)
  (h : ∀ v' w',w'.ownsRow base e size v' (n + m) (xs ++ news) → w.grownBy w' v.ownBlock → (v'.ownBlock = v.ownBlock ∨ v'.ownBlock = some w.heap.size) → K (a.put o.dst v') w') : o.wp P a w K Q := by
 obtain ⟨v',w',hrun,h2,h3,h4⟩ := zgs (P := P) w base t o.type e i z size bytes ht hi hz hsize hby hzs hsz v n xs hown B A m c news hr h1 h63 hbytes hbase;unfold Oper.wp execOp;simp only [ho,resolve,invoke,builtin,Sem.run_bind,Sem.run_pure,Result.andThen_ok,ztD,ztz,ztA,hs,hx,hrun];exact h v' w' h2 h3 h4
theorem zcu {ops : Array Oper}{rest : List Oper}{o : Oper}{a : Act}{Q : Exit → Act → World → Prop}(hgd : o.guard = none)(s x : Operand)(t : TypeId)
  (ho : o.op = .call { callee := .builtin .append,args := #[s,x],argTypes := #[t,t] })
  (base : Nat) (e : TypeId) (i : TypeInfo) (z : Value) (size bytes : Nat) (ht : P.underlying t = some (.slice e)) (hi : P.info? e = some i) (hz : i.zero = some z)
  (hsize : i.size = size) (hby : i.bytes = bytes) (hzs : z.cells.size = size) (hsz : 0 < size)
  (v : Value) (n : Nat) (xs : List Value) (hs : a.eval s = v) (hown : w.ownsRow base e size v n xs)
  (B : Nat) (A : Option Addr) (m c : Nat) (news : List Value) (hx : a.eval x = .slice A m c) (hr : zaU w B size A m news) (h1 : ∀ u ∈ news,u.oneCell' = true)
  (h63 : n + m ≤ maxLen) (hbytes : (n + m) * bytes ≤ 140737488355328) (hbase : base ≤ w.heap.size)
  (h : ∀ v' w',w'.ownsRow base e size v' (n + m) (xs ++ news) → w.grownBy w' v.ownBlock → (v'.ownBlock = v.ownBlock ∨ v'.ownBlock = some w.heap.size) → wpList P ops Q rest (a.put o.dst v') w') : wpList P ops Q (o :: rest) a w :=
 wpList_plain hgd fun _ hK => zdC w s x t ho base e i z size bytes ht hi hz hsize hby hzs hsz v n xs hs hown B A m c news hx hr h1 h63 hbytes hbase fun v' w' h2 h3 h4 => hK _ _ (h v' w' h2 h3 h4)
theorem zgg {ops : Array Oper}{o : Oper}{a : Act}{K : Act → World → Prop}{Q : Exit → Act → World → Prop}{E : Prop}(hgd : o.guard = none)(s x : Operand)(t : TypeId)
  (ho : o.op = .call { callee := .builtin .append,args := #[s,x],argTypes := #[t,t] })
  (base : Nat) (e : TypeId) (i : TypeInfo) (z : Value) (size bytes : Nat) (ht : P.underlying t = some (.slice e)) (hi : P.info? e = some i) (hz : i.zero = some z)
  (hsize : i.size = size) (hby : i.bytes = bytes) (hzs : z.cells.size = size) (hsz : 0 < size)
  (v : Value) (n : Nat) (xs : List Value) (hs : a.eval s = v) (hown : w.ownsRow base e size v n xs)
  (B : Nat) (A : Option Addr) (m c : Nat) (news : List Value) (hx : a.eval x = .slice A m c) (hr : zaU w B size A m news) (h1 : ∀ u ∈ news,u.oneCell' = true)
  (h63 : n + m ≤ maxLen) (hbytes : (n + m) * bytes ≤ 140737488355328) (hbase : base ≤ w.heap.size)
  (h : ∀ v' w',w'.ownsRow base e size v' (n + m) (xs ++ news) → w.grownBy w' v.ownBlock → (v'.ownBlock = v.ownBlock ∨ v'.ownBlock = some w.heap.size) → K (a.put o.dst v') w') :
  if Region.wanted o (yielded ops a.tmps) = true then Oper.wp P o a w K Q else E := by
 have hw : Region.wanted o (yielded ops a.tmps) = true := by simp [Region.wanted,hgd]
 rw [if_pos hw];exact zdC w s x t ho base e i z size bytes ht hi hz hsize hby hzs hsz v n xs hs hown B A m c news hx hr h1 h63 hbytes hbase h
end
theorem Hd {p : Prop}(h : p) : Hid p := h
theorem zad {B : Nat}{a w : World}(h : Below B a w)(n : Nat) : Below B a (w.drewN n) := ⟨h.os,h.tape,h.output,h.size,h.block⟩
theorem za4 {a w : World}(h : Below a.heap.size a w)(row : Option Nat) : a.grownBy w row := ⟨h.os,h.tape,h.output,h.size,fun i hi _ => h.block i hi⟩
theorem zhx {P : Program}(t e : TypeId)(i : TypeInfo)(z : Value)(ht : P.underlying t = some (.slice e))(hi : P.info? e = some i)(hz : i.zero = some z)
  (kl kc : IntKind) (n c : Nat) (hnc : n ≤ c) (hbytes : i.bytes * c ≤ 281474976710656) (h63 : c ≤ 9223372036854775807) (w : World) :
  (Instr.makeSlice t (.int kl (n : Int)) (.int kc (c : Int))).run P w = .ok (.slice (some ⟨w.heap.size,0,none⟩) n c) (w.alloc (.cells (madeCells z.cells (c * i.size)) e)) := by
 have hb : (i.bytes : Int) * (c : Int) ≤ 281474976710656 := by
  have h : ((i.bytes * c : Nat) : Int) ≤ 281474976710656 := by omega
  rwa [Int.natCast_mul] at h
 have hr := run_make (P := P) w t e i z ht hi hz kl kc n c (by omega) (by omega) hb (by omega);simp only [ztx] at hr;exact hr
section
variable {H : Type}{enc : TypeId × Value → H}{P : Program}
end
/-! ### more results -/
/-! ### bytes that read as a list, as a string -/
def ztf (l : List Int) : Prop := ∀ x ∈ l,0 ≤ x ∧ x < 256
theorem zgt {w : World}{g : Nat}{t : TypeId}{cs : Array Value}(h : Blk w g t cs)(n : Nat)(xs : List Value)(hx : xs.length = n)(hc : ∀ (j : Nat) (u : Value),xs[j]? = some u → cs[j]? = some u) :
  zaU w w.heap.size 1 (some ⟨g,0,none⟩) n xs :=
 ⟨by omega,fun _ => ⟨_,rfl,h.lt,fun j u hu => by
  rw [show (⟨g,0,none⟩ : Addr).add j = ⟨g,j,none⟩ from by unfold Addr.add; split <;> simp_all,h.cell j];exact hc j u hu⟩⟩
theorem zgh (w : World)(t : TypeId)(xs : List Value)(n : Nat)(hn : xs.length = n) : zaU (w.alloc (.cells xs.toArray t)) (w.alloc (.cells xs.toArray t)).heap.size 1 (some ⟨w.heap.size,0,none⟩) n xs :=
 zgt (Blk.new w _ _) n xs hn (by simp)
theorem zdD {k : IntKind}{x : Int} : ∀ u ∈ [Value.int k x],u.oneCell' = true := by
 intro u hu;simp at hu;subst hu
 rfl
theorem zaF {n : Nat}{w : World}(o : Obj)(h : n ≤ w.heap.size) : n ≤ (w.alloc o).heap.size := by simp; omega
end
section
structure TD where
 kind : Int
 op : Int
 w : Int
 n : Int
 a : Int
 b : Int
 c : Int
deriving DecidableEq
def TD.cells (x : TD) : List Value := [.int .i8 x.kind,.int .i8 x.op,.int .i8 x.w,.int .u64 x.n,.int .i64 x.a,.int .i64 x.b,.int .i64 x.c]
def zax (t : TD) : List Int := if t.kind = 2 ∨ t.kind = 4 then [t.a,t.b] else if t.kind = 3 then [t.a] else if t.kind = 5 then [t.a,t.b,t.c] else []
def zay (t : TD) : TD :=
 if t.kind = 0 then ⟨0,0,0,t.n,0,0,0⟩
 else if t.kind = 1 then ⟨1,0,t.w,t.n,0,0,0⟩
 else if t.kind = 2 then ⟨2,t.op,t.w,0,t.a,t.b,0⟩
 else if t.kind = 4 then ⟨4,t.op,t.w,0,t.a,t.b,0⟩
 else if t.kind = 3 then ⟨3,0,t.w,0,t.a,0,0⟩
 else if t.kind = 5 then ⟨5,0,0,0,t.a,t.b,t.c⟩
 else ⟨t.kind,0,0,0,0,0,0⟩
def wdB (w : Int) : Bool := w == 8 || (w == 16 || (w == 32 || w == 64))
def zcl (t : TD) : Bool :=
 if t.kind = 0 then true
 else if t.kind = 1 then wdB t.w
 else if t.kind = 2 then (t.w == 32 || t.w == 64) && (decide (0 ≤ t.op) && decide (t.op ≤ 12))
 else if t.kind = 4 then (t.w == 32 || t.w == 64) && (decide (0 ≤ t.op) && decide (t.op ≤ 10))
 else if t.kind = 3 then t.w != 64 && wdB t.w
 else decide (t.kind = 5)
def okF (t : TD) : Bool := zcl t && decide (t = zay t)
def zal (T : List TD)(n : Int) : Bool := decide (0 ≤ n) && decide (n < T.length)
def ziT (n : Int)(x : TD) : Bool := x.kind == 1 && x.n == n
def wideF (T : List TD)(n : Int) : Option Int := (T.find? (ziT n)).map (·.w)
def zaI (T : List TD)(t : TD) : Bool := t.kind == 1 && (match wideF T t.n with | some w => w != t.w | none => false)
def okP (T : List TD)(t : TD) : Bool := okF t && ((zax t).all (zal T) && !zaI T t)
def zd6 (D : List Int)(l : List Int) : Int := l.foldl (fun d n => max d (D.getD n.toNat 0 + 1)) 1
structure PS where
 T : List TD
 D : List Int
def atT (T : List TD)(t : TD) : Option Nat := T.findIdx? (fun x => decide (x = t))
def zcm (p : PS)(t : TD) : PS := if okP p.T t = true ∧ atT p.T t = none ∧ p.T.length < 4000 ∧ zd6 p.D (zax t) ≤ 256 then ⟨p.T ++ [t],p.D ++ [zd6 p.D (zax t)]⟩ else p
def zcP (p : PS)(t : TD) : Int × Int :=
 if okP p.T t = false then (0,2) else match atT p.T t with
  | some i => ((i : Int),0)
  | none => if 4000 ≤ p.T.length ∨ 256 < zd6 p.D (zax t) then (0,260) else ((p.T.length : Int),0)
theorem zhy {T : List TD}{t : TD}{i : Nat}(h : atT T t = some i) : T[i]? = some t := by
 unfold atT at h;obtain ⟨hi,hp,_⟩ := List.findIdx?_eq_some_iff_getElem.1 h;simp at hp;rw [ztq hi,hp]
theorem zjZ {T : List TD}{t : TD}(h : atT T t = none) : t ∉ T := by
 intro hm;unfold atT at h;rw [List.findIdx?_eq_none_iff] at h;have := h t hm;simp at this
theorem zqH {T : List TD}{t : TD}(h : t ∈ T) : ∃ i,atT T t = some i := by
 cases e : atT T t with
 | some i => exact ⟨i,rfl⟩
 | none => exact absurd h (zjZ e)
structure WfP (p : PS) : Prop where
 len : p.D.length = p.T.length
 few : p.T.length ≤ 4000
 ok : ∀ (i : Nat) (t : TD),p.T[i]? = some t → okF t = true
 part : ∀ (i : Nat) (t : TD),p.T[i]? = some t → ∀ k ∈ zax t,0 ≤ k ∧ k < (i : Int)
 deep : ∀ (i : Nat) (t : TD),p.T[i]? = some t → p.D[i]? = some (zd6 p.D (zax t))
 low : ∀ d ∈ p.D,1 ≤ d ∧ d ≤ 256
 once : ∀ (i j : Nat) (t : TD),p.T[i]? = some t → p.T[j]? = some t → i = j
 wide : ∀ (i j : Nat) (t u : TD),p.T[i]? = some t → p.T[j]? = some u → t.kind = 1 → u.kind = 1 → t.n = u.n → t.w = u.w
theorem WfP.nil : WfP ⟨[],[]⟩ := ⟨rfl,by simp,by simp,by simp,by simp,by simp,by simp,by simp⟩
theorem ziU (D : List Int) : ∀ (l : List Int) (d : Int),d ≤ l.foldl (fun d n => max d (D.getD n.toNat 0 + 1)) d
 | [],d => ztB _
 | x :: r,d => Int.le_trans (Int.le_max_left _ _) (ziU D r _)
theorem ziV (D : List Int)(l : List Int) : 1 ≤ zd6 D l := ziU D l 1
theorem zoV {D : List Int}(d' : Int) : ∀ (l : List Int),(∀ k ∈ l,0 ≤ k ∧ k < (D.length : Int)) → ∀ a,l.foldl (fun d n => max d ((D ++ [d']).getD n.toNat 0 + 1)) a = l.foldl (fun d n => max d (D.getD n.toNat 0 + 1)) a := by
 intro l
 induction l with
 | nil => intro _ a; rfl
 | cons x r ih =>
  intro h a;have hx := h x (by simp);rw [zua,zua,ih (fun k hk => h k (by simp [hk]))]
  congr 2
  rw [zts,zts,ztJ (by omega)]
theorem zoW {T : List TD}{n : Int}{t : TD}(h : wideF T n ≠ none) : wideF (T ++ [t]) n = wideF T n := by
 unfold wideF at h ⊢;rw [List.find?_append]
 cases e : T.find? (ziT n) with
 | none => rw [e] at h; exact absurd rfl h
 | some x => rfl
theorem zm3 {T : List TD}{n : Int}{t : TD}(h : wideF T n = none) : wideF (T ++ [t]) n = if ziT n t then some t.w else none := by
 unfold wideF at h ⊢;rw [List.find?_append]
 cases e : T.find? (ziT n) with
 | none =>
  rw [List.find?_singleton]
  cases ziT n t <;> rfl
 | some x => rw [e] at h; cases h
theorem ze5 {T : List TD}{n w : Int}(h : wideF T n = some w) : ∃ (i : Nat) (t : TD),T[i]? = some t ∧ t.kind = 1 ∧ t.n = n ∧ t.w = w := by
 unfold wideF at h;rw [ztC] at h;obtain ⟨t,ht,rfl⟩ := h;have h1 := List.mem_of_find?_eq_some ht;have h2 := List.find?_some ht;obtain ⟨i,hi⟩ := List.getElem?_of_mem h1;unfold ziT at h2;simp at h2;exact ⟨i,t,hi,h2.1,h2.2,rfl⟩
theorem zkU {T : List TD}{n : Int}(h : wideF T n = none) : ∀ t ∈ T,t.kind = 1 → t.n ≠ n := by
 intro t ht hk hn;unfold wideF at h;rw [Option.map_eq_none_iff,List.find?_eq_none] at h;have := h t ht;unfold ziT at this;simp [hk,hn] at this
theorem WfP.wideF {p : PS}(h : WfP p){i : Nat}{t : TD}(ht : p.T[i]? = some t)(hk : t.kind = 1) : wideF p.T t.n = some t.w := by
 cases e : Go.Proofs.YtepagfkkjlbipaaGreat.wideF p.T t.n with
 | none => exact absurd rfl (zkU e t (ztv ht) hk)
 | some w =>
  obtain ⟨j,u,hu,hku,hn,hw⟩ := ze5 e;rw [← hw,h.wide i j t u ht hu hk hku hn.symm]
theorem zdU {T : List TD}{t : TD}(h : okP T t = true) : okF t = true ∧ (∀ k ∈ zax t,0 ≤ k ∧ k < (T.length : Int)) ∧ zaI T t = false := by
 unfold okP at h;simp only [ztr,zt8,zui] at h;refine ⟨h.1,fun k hk => ?_,h.2.2⟩;have := h.2.1 k hk;unfold zal at this;simp at this;exact this
theorem za8 (p : PS)(t : TD) : (zcm p t = p ∧ ((okP p.T t = false ∧ zcP p t = (0,2)) ∨ (okP p.T t = true ∧ ∃ i : Nat,p.T[i]? = some t ∧ atT p.T t = some i ∧ zcP p t = ((i : Int),0)) ∨ (okP p.T t = true ∧ atT p.T t = none ∧ (4000 ≤ p.T.length ∨ 256 < zd6 p.D (zax t)) ∧ zcP p t = (0,260)))) ∨
  (okP p.T t = true ∧ atT p.T t = none ∧ p.T.length < 4000 ∧ zd6 p.D (zax t) ≤ 256 ∧ zcm p t = ⟨p.T ++ [t],p.D ++ [zd6 p.D (zax t)]⟩ ∧ zcP p t = ((p.T.length : Int),0)) := by
 unfold zcm zcP
 cases ho : okP p.T t
 ·exact .inl ⟨by simp,.inl ⟨rfl,by simp⟩⟩
 ·cases ha : atT p.T t with
  | some i => exact .inl ⟨by simp,.inr (.inl ⟨rfl,i,zhy ha,rfl,by simp⟩)⟩
  | none =>
   by_cases hl : 4000 ≤ p.T.length ∨ 256 < zd6 p.D (zax t)
   ·refine .inl ⟨?_,.inr (.inr ⟨rfl,rfl,hl,?_⟩)⟩
    ·rw [if_neg (by rintro ⟨_,_,h1,h2⟩; omega)]
    ·simp [hl]
   ·refine .inr ⟨rfl,rfl,by omega,by omega,?_,?_⟩
    ·rw [if_pos ⟨rfl,rfl,by omega,by omega⟩]
    ·simp [hl]
theorem WfP.put {p : PS}(h : WfP p)(t : TD) : WfP (zcm p t) := by
 rcases za8 p t with ⟨e,_⟩ | ⟨ho,ha,hl,hd,e,_⟩
 ·rw [e]; exact h
 ·rw [e]
  obtain ⟨h1,h2,h3⟩ := zdU ho;have hnm := zjZ ha;have hlen := h.len;have key : ∀ (i : Nat) (u : TD),(p.T ++ [t])[i]? = some u → (p.T[i]? = some u ∧ i < p.T.length) ∨ (i = p.T.length ∧ u = t) := by
   intro i u hu
   rcases Nat.lt_trichotomy i p.T.length with hi | hi | hi
   ·rw [ztJ hi] at hu; exact .inl ⟨hu,hi⟩
   ·subst hi
    simp at hu;exact .inr ⟨rfl,hu.symm⟩
   ·rw [zul (by simp; omega)] at hu; cases hu
  have dm : ∀ l : List Int,(∀ k ∈ l,0 ≤ k ∧ k < (p.T.length : Int)) → zd6 (p.D ++ [zd6 p.D (zax t)]) l = zd6 p.D l := fun l hl => zoV (D := p.D) (zd6 p.D (zax t)) l (fun k hk => by have := hl k hk; omega) 1
  have pl : ∀ (i : Nat) (u : TD),p.T[i]? = some u → ∀ k ∈ zax u,0 ≤ k ∧ k < (p.T.length : Int) := fun i u hu k hk => by
   have := h.part i u hu k hk;have := (ztt.1 hu).1;omega
  refine ⟨by simp [hlen],by simp; omega,fun i u hu => ?_,fun i u hu => ?_,fun i u hu => ?_,fun d hd' => ?_,fun i j u hi hj => ?_,fun i j u v hi hj ku kv hn => ?_⟩
  ·rcases key i u hu with ⟨q,_⟩ | ⟨_,rfl⟩
   ·exact h.ok i u q
   ·exact h1
  ·rcases key i u hu with ⟨q,_⟩ | ⟨rfl,rfl⟩
   ·exact h.part i u q
   ·exact h2
  ·dsimp only at hu ⊢
   rcases key i u hu with ⟨q,hi⟩ | ⟨rfl,rfl⟩
   ·rw [ztJ (by omega),dm _ (pl i u q)]
    exact h.deep i u q
   ·rw [dm _ h2,← hlen]
    simp
  ·dsimp only at hd'
   rw [List.mem_append,List.mem_singleton] at hd'
   rcases hd' with q | rfl
   ·exact h.low d q
   ·exact ⟨ziV _ _,hd⟩
  ·rcases key i u hi with ⟨q1,l1⟩ | ⟨rfl,rfl⟩ <;> rcases key j _ hj with ⟨q2,l2⟩ | ⟨rfl,e2⟩
   ·exact h.once i j u q1 q2
   ·subst e2; exact absurd (ztv q1) hnm
   ·exact absurd (ztv q2) hnm
   ·rfl
  ·have cl : ∀ (j : Nat) (v : TD),p.T[j]? = some v → v.kind = 1 → t.kind = 1 → v.n = t.n → v.w = t.w := by
    intro j v hv kv kt hnn;have := h.wideF hv kv;unfold zaI at h3;rw [← hnn,this,kt] at h3
    simpa using h3
   rcases key i u hi with ⟨q1,l1⟩ | ⟨rfl,rfl⟩ <;> rcases key j v hj with ⟨q2,l2⟩ | ⟨rfl,rfl⟩
   ·exact h.wide i j u v q1 q2 ku kv hn
   ·exact cl i u q1 ku kv hn
   ·exact (cl j v q2 kv ku hn.symm).symm
   ·rfl
theorem zm4 {p : PS}(h : WfP p){i : Nat}{t : TD}(ht : p.T[i]? = some t) : okP p.T t = true := by
 have hi := (ztt.1 ht).1;unfold okP;simp only [ztr,zt8,zui];refine ⟨h.ok i t ht,fun k hk => ?_,?_⟩
 ·have := h.part i t ht k hk
  unfold zal;simp;omega
 ·unfold zaI
  by_cases hk : t.kind = 1
  ·rw [h.wideF ht hk]; simp
  ·have : (t.kind == 1) = false := by simpa using hk
   rw [this]; rfl
theorem zib {p : PS}(h : WfP p){i : Nat}{t : TD}(ht : p.T[i]? = some t) : zcm p t = p ∧ zcP p t = ((i : Int),0) := by
 have ho := zm4 h ht;obtain ⟨j,hj⟩ := zqH (ztv ht);have hij := h.once i j t ht (zhy hj);subst hij
 rcases za8 p t with ⟨e,⟨o,q⟩ | ⟨_,k,hk,ha,q⟩ | ⟨_,ha,_⟩⟩ | ⟨_,ha,_⟩
 ·rw [ho] at o; cases o
 ·rw [hj] at ha; injection ha with ha; subst ha; exact ⟨e,q⟩
 ·rw [hj] at ha; cases ha
 ·rw [hj] at ha; cases ha
def zrZ (p : PS) : List TD → PS
 | [] => p
 | t :: r => zrZ (zcm p t) r
end
section
open Go.Maps (Keyed)
def zaR {κ : Type}(P : Program)(k : TypeId)(enc : κ → Value)(V : κ → Prop)(w : World)(b n : Nat)(f : κ → Option Value) : Prop :=
 ∃ es clock,w.heap[b]? = some (.map es clock) ∧ es.size ≤ n ∧ (es.toList.map (·.key)).Nodup ∧ (∀ e ∈ es.toList,∃ x,V x ∧ e.key = enc x ∧ f x = some e.val) ∧ ∀ x u,f x = some u → V x ∧ ∃ e ∈ es.toList,e.key = enc x
structure zdt {κ : Type}(P : Program)(k : TypeId)(enc : κ → Value)(V : κ → Prop) : Prop where
 keyed : Keyed P k
 reads : ∀ x,V x → ∃ l,keyOf P k (enc x) = some l
 inj : ∀ x y,V x → V y → enc x = enc y → x = y
section
variable {κ : Type}{P : Program}{k : TypeId}{enc : κ → Value}{V : κ → Prop}{w w' : World}{b n : Nat}{f g : κ → Option Value}
theorem zaR.new (w : World) : zaR P k enc V (w.alloc (.map #[] 0)) w.heap.size 0 (fun _ => none) :=
 ⟨#[],0,(MapKept.heap_alloc w _).1,by simp,by simp,by simp,by simp⟩
theorem zaR.lt (h : zaR P k enc V w b n f) : b < w.heap.size := by
 obtain ⟨es,c,hb,_⟩ := h;exact (Array.getElem?_eq_some_iff.1 hb).1
theorem zaR.mono {n' : Nat}(h : zaR P k enc V w b n f)(hn : n ≤ n') : zaR P k enc V w b n' f := by
 obtain ⟨es,c,h1,h2,h3,h4,h5⟩ := h;exact ⟨es,c,h1,zto h2 hn,h3,h4,h5⟩
theorem zaR.congr (h : zaR P k enc V w b n f)(hg : ∀ x,g x = f x) : zaR P k enc V w b n g := by
 obtain rfl : g = f := funext hg;exact h
theorem zaR.block_ (h : zaR P k enc V w b n f)(hb : w'.heap[b]? = w.heap[b]?) : zaR P k enc V w' b n f := by
 obtain ⟨es,c,h1,h2⟩ := h;exact ⟨es,c,hb.trans h1,h2⟩
theorem zaR.drewN (h : zaR P k enc V w b n f)(m : Nat) : zaR P k enc V (w.drewN m) b n f := h
theorem zaR.alloc (h : zaR P k enc V w b n f)(o : Obj) : zaR P k enc V (w.alloc o) b n f := h.block_ (Below.heap_alloc w o b h.lt)
theorem zaR.below {B : Nat}(h : zaR P k enc V w b n f)(hb : Below B w w')(hg : b < B) : zaR P k enc V w' b n f := h.block_ (hb.block b hg)
theorem zaR.grown {row : Option Nat}(h : zaR P k enc V w b n f)(hb : w.grownBy w' row)(hg : some b ≠ row) : zaR P k enc V w' b n f := h.block_ (hb.block b h.lt hg)
theorem zaR.keys (E : zdt P k enc V){es : Array MapEntry}(h : ∀ e ∈ es.toList,∃ x,V x ∧ e.key = enc x ∧ f x = some e.val) : ∀ e ∈ es.toList,∃ l,keyOf P k e.key = some l := by
 intro e he;obtain ⟨x,hv,hk,_⟩ := h e he;rw [hk];exact E.reads x hv
theorem zaR.look {t e : TypeId}(h : zaR P k enc V w b n f)(E : zdt P k enc V)(ht : P.underlying t = some (.map k e)){z : Value}(hz : (zeroValue e).run P w = .ok z w)(x : κ)(hx : V x)(c : Bool) :
  (Instr.lookup t (.map (some b)) (enc x) c).run P w = .ok (if c then .tuple #[(f x).getD z,.bool (f x).isSome] else (f x).getD z) w := by
 obtain ⟨es,clock,hb,hs,hd,hv,hf⟩ := h;obtain ⟨l,hl⟩ := E.reads x hx
 rcases E.keyed.find w hl es.toList (zaR.keys E hv) with ⟨h1,h2⟩ | ⟨j,e0,h1,h2,h3⟩
 ·have hn : f x = none := by
   cases hq : f x with
   | none => rfl
   | some u =>
    obtain ⟨_,e1,he1,hk1⟩ := hf x u hq;exact absurd hk1 (h2 e1 he1)
  rw [hn];simp [Instr.lookup,run_underlying ht,MapKept.run_getObj_map hb,E.keyed.check w _ hl,h1,hz,Result.andThen]
 ·have hm0 : e0 ∈ es.toList := ztv h2
  obtain ⟨y,hy,hk,hfy⟩ := hv e0 hm0;have hxy : x = y := E.inj x y hx hy (h3 ▸ hk);subst hxy;rw [hfy];simp [Instr.lookup,run_underlying ht,MapKept.run_getObj_map hb,E.keyed.check w _ hl,h1,Result.andThen]
variable [DecidableEq κ]
def zeC (f : κ → Option Value)(x : κ)(v : Value) : κ → Option Value := fun y => if y = x then some v else f y
theorem zaR.update {t e : TypeId}(h : zaR P k enc V w b n f)(E : zdt P k enc V)(ht : P.underlying t = some (.map k e))(hn : n < maxLen)(x : κ)(hx : V x)(v : Value) :
  ∃ w',(Instr.mapUpdate t (.map (some b)) (enc x) v).run P w = .ok () w' ∧ zaR P k enc V w' b (n + 1) (zeC f x v) ∧ w.grownBy w' (some b) := by
 obtain ⟨es,clock,hb,hs,hd,hv,hf⟩ := h;obtain ⟨l,hl⟩ := E.reads x hx;have hgr : ∀ o,w.grownBy (ChangeMaps.setBlock w b o) (some b) := fun o => ⟨rfl,rfl,rfl,by simp [ChangeMaps.setBlock],fun i _ hi => ChangeMaps.heap_setBlock_other hb _ (fun e => hi (by rw [e]))⟩
 rcases E.keyed.find w hl es.toList (zaR.keys E hv) with ⟨h1,h2⟩ | ⟨j,e0,h1,h2,h3⟩
 ·refine ⟨_,by simp [Instr.mapUpdate,run_underlying ht,MapKept.run_getObj_map hb,E.keyed.check w false hl,h1,MapKept.run_setObj_map _ hb,Result.andThen]; rfl,⟨es.push ⟨enc x,v,clock⟩,clock + 1,ChangeMaps.heap_setBlock_same hb _,by simp; omega,?_,?_,?_⟩,hgr _⟩
  ·simp only [Array.toList_push,List.map_append,ztz,ztA]
   refine List.nodup_append.2 ⟨hd,by simp,?_⟩;intro a ha c hc;simp at hc;subst hc;obtain ⟨e1,he1,rfl⟩ := List.mem_map.1 ha;exact h2 e1 he1
  ·intro e1 he1
   simp only [Array.toList_push,List.mem_append,List.mem_singleton] at he1
   rcases he1 with he1 | rfl
   ·obtain ⟨y,hy,hk,hfy⟩ := hv e1 he1
    refine ⟨y,hy,hk,?_⟩;unfold zeC;rw [if_neg (fun e => h2 e1 he1 (by rw [hk,e])),hfy]
   ·exact ⟨x,hx,rfl,by simp [zeC]⟩
  ·intro y u hy
   unfold zeC at hy;simp only [Array.toList_push,List.mem_append,List.mem_singleton]
   by_cases hyx : y = x
   ·exact ⟨hyx ▸ hx,_,.inr rfl,by rw [hyx]⟩
   ·rw [if_neg hyx] at hy
    obtain ⟨hy0,e1,he1,hk1⟩ := hf y u hy;exact ⟨hy0,e1,.inl he1,hk1⟩
 ·have hj : es[j]? = some e0 := by simpa using h2
  have hjl : j < es.toList.length := (ztt.1 h2).1;have hm0 : e0 ∈ es.toList := ztv h2;obtain ⟨y0,hy0,hk0,hfy0⟩ := hv e0 hm0;have hxy : x = y0 := E.inj x y0 hx hy0 (h3 ▸ hk0);subst hxy;have hlist : (es.modify j (fun e' => { e' with key := enc x,val := v })).toList = es.toList.set j { e0 with key := enc x,val := v } := by
   rw [Array.toList_modify];refine List.ext_getElem? fun i => ?_
   rw [List.getElem?_modify,List.getElem?_set]
   by_cases hij : j = i
   ·subst hij
    simp [hj]
    simpa using hjl
   ·simp [hij]
  have hkeys : (es.toList.set j { e0 with key := enc x,val := v }).map (·.key) = es.toList.map (·.key) := by
   rw [List.map_set];refine List.ext_getElem? fun i => ?_
   rw [List.getElem?_set]
   by_cases hij : j = i
   ·subst hij
    simp [hj,h3]
    simpa using hjl
   ·simp [hij]
  refine ⟨_,by simp [Instr.mapUpdate,run_underlying ht,MapKept.run_getObj_map hb,E.keyed.check w false hl,h1,hj,h3,E.keyed.stays w hl,MapKept.run_setObj_map _ hb,Result.andThen]; rfl,⟨es.modify j (fun e' => { e' with key := enc x,val := v }),clock,ChangeMaps.heap_setBlock_same hb _,by simp; omega,?_,?_,?_⟩,hgr _⟩
  ·rw [hlist,hkeys]; exact hd
  ·rw [hlist]
   intro e1 he1;obtain ⟨i,hi,ex⟩ := zue he1;rw [List.getElem_set] at ex
   split at ex
   ·subst ex
    exact ⟨x,hx,rfl,by simp [zeC]⟩
   ·rename_i hne
    have hi' : i < es.toList.length := by simpa using hi
    have hm1 : e1 ∈ es.toList := ex ▸ ztU hi';obtain ⟨y,hy,hk,hfy⟩ := hv e1 hm1;refine ⟨y,hy,hk,?_⟩;unfold zeC;rw [if_neg ?_,hfy];rintro rfl;refine hne ?_;have hp := List.pairwise_iff_getElem.1 hd;have hk1 : e1.key = e0.key := hk.trans hk0.symm;have q0 : es.toList[j] = e0 := by have := ztq hjl; rw [h2] at this; exact (Option.some.inj this).symm
    rcases Nat.lt_trichotomy i j with hlt | heq | hgt
    ·refine absurd ?_ (hp i j (by simpa using hi') (by simpa using hjl) hlt)
     simp only [List.getElem_map,ex,q0,hk1]
    ·exact heq.symm
    ·refine absurd ?_ (hp j i (by simpa using hjl) (by simpa using hi') hgt)
     simp only [List.getElem_map,ex,q0,hk1]
  ·rw [hlist]
   intro y u hy;unfold zeC at hy
   by_cases hyx : y = x
   ·subst hyx
    exact ⟨hx,{ e0 with key := enc y,val := v },List.mem_iff_getElem.2 ⟨j,by simpa using hjl,by simp⟩,rfl⟩
   ·rw [if_neg hyx] at hy
    obtain ⟨hvy,e1,he1,hk1⟩ := hf y u hy;obtain ⟨i,hi,ex⟩ := zue he1;have hij : j ≠ i := by
     rintro rfl;have h5 : e1 = e0 := by
      have := ztq hi;rw [h2,ex] at this;exact (Option.some.inj this).symm
     subst h5;exact hyx (E.inj y x hvy hx (by rw [← hk1,h3]))
    exact ⟨hvy,e1,List.mem_iff_getElem.2 ⟨i,by simpa using hi,by rw [List.getElem_set,if_neg hij,ex]⟩,hk1⟩
omit [DecidableEq κ] in
theorem zej {ops : Array Oper}{rest : List Oper}{o : Oper}{a : Act}{Q : Exit → Act → World → Prop}(hg : o.guard = none)(m y : Operand)(t : TypeId)(c : Bool)(hop : o.op = Op.lookup t m y c)
  (e : TypeId) (E : zdt P k enc V) (ht : P.underlying t = some (.map k e)) (z : Value) (hz : (zeroValue e).run P w = .ok z w) (h : zaR P k enc V w b n f) (x : κ) (hx : V x) (hm : a.eval m = .map (some b)) (hy : a.eval y = enc x)
  (hK : wpList P ops Q rest (a.put o.dst (if c then .tuple #[(f x).getD z,.bool (f x).isSome] else (f x).getD z)) w) : wpList P ops Q (o :: rest) a w := by
 refine wpList_plain hg fun K' hK' => ?_
 unfold Oper.wp;simp [execOp,hop,hm,hy,h.look E ht hz x hx c,Result.andThen];exact hK' _ _ hK
omit [DecidableEq κ] in
theorem zff {ops : Array Oper}{rest : List Oper}{o : Oper}{a : Act}{Q : Exit → Act → World → Prop}(hg : o.guard = none)(m y : Operand)(t : TypeId)(hop : o.op = Op.lookup t m y false)
  (e : TypeId) (E : zdt P k enc V) (ht : P.underlying t = some (.map k e)) (z : Value) (hz : (zeroValue e).run P w = .ok z w) (h : zaR P k enc V w b n f) (x : κ) (hx : V x) (hm : a.eval m = .map (some b)) (hy : a.eval y = enc x)
  (v : Value) (hv : (f x).getD z = v) (hK : wpList P ops Q rest (a.put o.dst v) w) : wpList P ops Q (o :: rest) a w := by
 refine zej hg m y t false hop e E ht z hz h x hx hm hy ?_;subst hv
 simpa using hK
theorem zbc {ops : Array Oper}{rest : List Oper}{o : Oper}{a : Act}{Q : Exit → Act → World → Prop}(hg : o.guard = none)(m y v : Operand)(t : TypeId)(hop : o.op = Op.mapUpdate t m y v)
  (e : TypeId) (E : zdt P k enc V) (ht : P.underlying t = some (.map k e)) (h : zaR P k enc V w b n f) (hn : n < maxLen) (x : κ) (hx : V x) (val : Value) (hm : a.eval m = .map (some b)) (hy : a.eval y = enc x) (hv : a.eval v = val)
  (hK : ∀ w',zaR P k enc V w' b (n + 1) (zeC f x val) → w.grownBy w' (some b) → wpList P ops Q rest (a.put o.dst undef) w') : wpList P ops Q (o :: rest) a w := by
 refine wpList_plain hg fun K' hK' => ?_
 obtain ⟨w',hrun,r1,r2⟩ := h.update E ht hn x hx val;unfold Oper.wp;simp [execOp,hop,hm,hy,hv,hrun,Result.andThen];exact hK' _ _ (hK w' r1 r2)
omit [DecidableEq κ] in
theorem zd9 {ops : Array Oper}{rest : List Oper}{o : Oper}{a : Act}{Q : Exit → Act → World → Prop}(enc : κ → Value)(V : κ → Prop)(k : TypeId)(hg : o.guard = none)(t : TypeId)(hop : o.op = Op.makeMap t none)
  (hK : ∀ w' b,w.heap.size ≤ b → zaR P k enc V w' b 0 (fun _ => none) → Below w.heap.size w w' → wpList P ops Q rest (a.put o.dst (.map (some b))) w') : wpList P ops Q (o :: rest) a w := by
 refine wpList_plain hg fun K' hK' => ?_
 unfold Oper.wp;have hrun : (Instr.makeMap t none).run P w = .ok (.map (some w.heap.size)) (w.alloc (.map #[] 0)) := rfl;simp [execOp,hop,hrun,Result.andThen];exact hK' _ _ (hK _ _ (ztn _) (zaR.new w) ((Below.refl _ _).alloc (ztn _) _))
end
end
end Go.Proofs.YtepagfkkjlbipaaGreat
