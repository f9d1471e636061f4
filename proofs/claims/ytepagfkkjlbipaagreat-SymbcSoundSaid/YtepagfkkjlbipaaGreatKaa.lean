/-
  Parts of the proof of SymbcSound. Conditions: those written in each statement.
-/
import Derived.WalkKit
import Derived.WalkSpells
import Derived.WalkLawsBesides
import Derived.ProofKit
import Derived.OpenShut
import Derived.ShutString
import Derived.Below
import Derived.Laws.OwnMore
import Derived.Deep.AppendLies
import Derived.Deep.Draws
import Derived.Laws.Rows
import Derived.Maps.AppendAt
import Derived.RegionTactic
import Derived.OwnWalk
import Derived.Deep.QuietTactic
import Derived.BigQuiet
import Derived.Deep.OwnRows
import Derived.Laws.AppendOwn
import Derived.Laws.MakeOwn
import Derived.Laws.Entries
import Derived.Laws.BitsAllLaws
import Derived.Laws.BitsLemmas
import Derived.Laws.BytesArg
import Derived.Lib.Strings
import Derived.ChangeSame
import Derived.Tactics
set_option linter.unusedVariables false
set_option linter.unusedSimpArgs false
set_option maxHeartbeats 64000000
set_option maxRecDepth 100000
namespace Go.Proofs.YtepagfkkjlbipaaGreat
section
open Go.RowKit Go.WideShapes Go.ChangeShapes
theorem block_of_add (a : Addr) (n : Nat) : (a.add n).block = a.block := by unfold Addr.add; split <;> rfl
theorem add_of_add (a : Addr) (i j : Nat) : (a.add i).add j = a.add (i + j) := by
 unfold Addr.add
 by_cases hi : i = 0 <;> by_cases hj : j = 0 <;> simp [hi, hj, Nat.add_assoc]
def Reads (w : World) (B size : Nat) (A : Option Addr) (n : Nat) (xs : List Value) : Prop :=
 xs.length = n * size ∧ (0 < n → ∃ ad, A = some ad ∧ ad.block < B ∧ ∀ j u, xs[j]? = some u → w.cell? (ad.add j) = some u)
section
variable {w w' : World} {B B' size n : Nat} {A : Option Addr} {xs : List Value}
theorem Reads.none_ : Reads w B size A 0 [] := ⟨by simp, fun h => absurd h (by omega)⟩
theorem Reads.at_ {k : Nat} (h : Reads w B 1 A n xs) (hk : k < n) : ∃ ad u, A = some ad ∧ ad.block < B ∧ xs[k]? = some u ∧ w.cell? (ad.add k) = some u := by
 obtain ⟨ad, e, hb, hc⟩ := h.2 (by omega)
 have hl : k < xs.length := by have := h.1; omega
 exact ⟨ad, xs[k], e, hb, List.getElem?_eq_getElem hl, hc k _ (List.getElem?_eq_getElem hl)⟩
theorem Reads.keep (h : Reads w B size A n xs) (hk : ∀ p : Addr, p.block < B → w'.cell? p = w.cell? p) : Reads w' B size A n xs :=
 ⟨h.1, fun hn => by
  obtain ⟨ad, e, hb, hc⟩ := h.2 hn
  exact ⟨ad, e, hb, fun j u hu => (hk _ (by rw [block_of_add]; exact hb)).trans (hc j u hu)⟩⟩
theorem Reads.more (h : Reads w B size A n xs) (hB : B ≤ B') : Reads w B' size A n xs :=
 ⟨h.1, fun hn => by
  obtain ⟨ad, e, hb, hc⟩ := h.2 hn
  exact ⟨ad, e, by omega, hc⟩⟩
theorem Reads.below (h : Reads w B size A n xs) (hb : Below B w w') : Reads w' B size A n xs := h.keep fun _ hp => hb.cell hp
theorem Reads.alloc (h : Reads w B size A n xs) (hB : B ≤ w.heap.size) (o : Obj) : Reads (w.alloc o) B size A n xs := h.keep fun p hp => World.cell?_alloc_lt w o p (by omega)
theorem Reads.grown (h : Reads w B size A n xs) {row : Option Nat} (hg : w.grownBy w' row) (hB : B ≤ w.heap.size) (hr : ∀ g, row = some g → B ≤ g) : Reads w' B size A n xs :=
 h.keep fun p hp => World.cell?_of_block (hg.block p.block (by omega) (fun e => by have := hr _ e.symm; omega))
theorem Reads.cut (h : Reads w B size A n xs) {k cap : Nat} (hk : k ≤ n) (hc : n ≤ cap) :
  Reads w B size (if cap = k then A else A.map (·.add (k * size))) (n - k) (xs.drop (k * size)) := by
 refine ⟨by rw [List.length_drop, h.1, Nat.sub_mul], fun hn => ?_⟩
 obtain ⟨ad, rfl, hb, hcell⟩ := h.2 (by omega)
 rw [if_neg (by omega)]
 refine ⟨ad.add (k * size), rfl, by rw [block_of_add]; exact hb, fun j u hu => ?_⟩
 rw [add_of_add]
 exact hcell _ u (by rw [← hu, List.getElem?_drop])
end
def Blk (w : World) (g : Nat) (t : TypeId) (cs : Array Value) : Prop := w.heap[g]? = some (.cells cs t (0, 0))
section
variable {w w' : World} {g : Nat} {t : TypeId} {cs : Array Value}
theorem Blk.lt (h : Blk w g t cs) : g < w.heap.size := by
 rcases Nat.lt_or_ge g w.heap.size with hlt | hge
 ·exact hlt
 ·unfold Blk at h; rw [Array.getElem?_eq_none hge] at h; cases h
theorem Blk.cell (h : Blk w g t cs) (i : Nat) : w.cell? ⟨g, i, none⟩ = cs[i]? := cell_of_row w g i cs t (0, 0) h
theorem Blk.frozen (h : Blk w g t cs) (i : Nat) : w.frozen? ⟨g, i, none⟩ = false := by
 unfold Blk at h
 simp [World.frozen?, h]
theorem Blk.new (w : World) (t : TypeId) (cs : Array Value) : Blk (w.alloc (.cells cs t)) w.heap.size t cs := heap_alloc_new w _
theorem Blk.alloc (h : Blk w g t cs) (o : Obj) : Blk (w.alloc o) g t cs := (Below.heap_alloc w o g h.lt).trans h
theorem Blk.set_ (h : Blk w g t cs) (i : Nat) (u : Value) : Blk (w.setCell ⟨g, i, none⟩ u) g t (cs.setIfInBounds i u) := by
 unfold Blk at h ⊢
 simp [World.setCell, Array.getElem?_modify, h]
theorem Blk.far (h : Blk w g t cs) {p : Addr} (hp : g ≠ p.block) (u : Value) : Blk (w.setCell p u) g t cs := (Below.heap_setCell w p u g hp).trans h
theorem Blk.below {B : Nat} (h : Blk w g t cs) (hb : Below B w w') (hg : g < B) : Blk w' g t cs := (hb.block g hg).trans h
theorem Blk.grown {row : Option Nat} (h : Blk w g t cs) (hb : w.grownBy w' row) (hg : some g ≠ row) : Blk w' g t cs := (hb.block g h.lt hg).trans h
theorem Blk.ne_ {g' : Nat} {t' : TypeId} {cs' : Array Value} (h : Blk w g t cs) (h' : Blk w g' t' cs') (hne : t ≠ t') : g ≠ g' := by
 rintro rfl
 unfold Blk at h h'
 rw [h] at h'
 injection h' with h'
 injection h' with _ ht
 exact hne ht
theorem own_blk_ne {base : Nat} {e : TypeId} {size n : Nat} {v : Value} {xs : List Value} (h : w.ownsRow base e size v n xs) (hg : Blk w g t cs) (hne : e ≠ t) : v.ownBlock ≠ some g := by
 rcases h.2 with ⟨rfl, _⟩ | ⟨g', cap, cur, rfl, _, hh, _⟩
 ·simp [Value.ownBlock]
 ·intro he
  have : g' = g := by simpa [Value.ownBlock] using he
  subst this
  exact Blk.ne_ (t := e) hh hg hne rfl
end
section
variable {P : Program} (w : World)
theorem run_append_of_nil (base : Nat) (t ty e : TypeId) (i : TypeInfo) (size : Nat) (ht : P.underlying t = some (.slice e)) (hi : P.info? e = some i)
  (v : Value) (n : Nat) (xs : List Value) (hown : w.ownsRow base e size v n xs) (c : Nat) : (Builtin.append_ #[t, t] ty #[v, .slice none 0 c]).run P w = .ok v w := by
 rcases hown.2 with ⟨rfl, rfl⟩ | ⟨g, cap, cur, rfl, _, _, hnc, _⟩
 ·simp [Builtin.append_, run_underlying ht, sizeOf, typeInfo, hi, Builtin.lenOf, Builtin.firstCells]
 ·simp [Builtin.append_, run_underlying ht, sizeOf, typeInfo, hi, Builtin.lenOf, Builtin.firstCells, hnc, storeCells]
theorem run_append_any (base : Nat) (t ty e : TypeId) (i : TypeInfo) (z : Value) (size bytes : Nat) (ht : P.underlying t = some (.slice e)) (hi : P.info? e = some i) (hz : i.zero = some z)
  (hsize : i.size = size) (hby : i.bytes = bytes) (hzs : z.cells.size = size) (hsz : 0 < size)
  (v : Value) (n : Nat) (xs : List Value) (hown : w.ownsRow base e size v n xs)
  (B : Nat) (A : Option Addr) (m c : Nat) (news : List Value) (hr : Reads w B size A m news) (h1 : ∀ u ∈ news, u.oneCell' = true)
  (h63 : n + m ≤ maxLen) (hbytes : (n + m) * bytes ≤ 140737488355328) (hbase : base ≤ w.heap.size) :
  ∃ v' w', (Builtin.append_ #[t, t] ty #[v, .slice A m c]).run P w = .ok v' w' ∧ w'.ownsRow base e size v' (n + m) (xs ++ news) ∧ w.grownBy w' v.ownBlock ∧
   (v'.ownBlock = v.ownBlock ∨ v'.ownBlock = some w.heap.size) := by
 rcases A with _ | ad
 ·have hm : m = 0 := by
   rcases Nat.eq_zero_or_pos m with h0 | h0
   ·exact h0
   ·obtain ⟨ad, h, _⟩ := hr.2 h0
    cases h
  subst hm
  have hn : news = [] := List.eq_nil_of_length_eq_zero (by simpa using hr.1)
  subst hn
  exact ⟨v, w, run_append_of_nil w base t ty e i size ht hi v n xs hown c, by simpa using hown, World.grownBy.refl w _, .inl rfl⟩
 ·have hcells : ∀ j u, news[j]? = some u → w.cell? (ad.add j) = some u := by
   intro j u hu
   rcases Nat.eq_zero_or_pos m with h0 | h0
   ·subst h0
    have hn : news = [] := List.eq_nil_of_length_eq_zero (by simpa using hr.1)
    subst hn
    simp at hu
   ·obtain ⟨ad', h, _, hc⟩ := hr.2 h0
    injection h with h
    subst h
    exact hc j u hu
  obtain ⟨v', w', hrun, h2, h3, _, h5⟩ := run_append_own_at (P := P) w base t ty e i z size bytes ht hi hz hsize hby hzs hsz v n xs hown ad m c news hr.1 hcells h1 h63 hbytes hbase
  exact ⟨v', w', hrun, h2, h3, h5⟩
theorem wp_append_any {o : Oper} {a : Act} {K : Act → World → Prop} {Q : Exit → Act → World → Prop} (s x : Operand) (t : TypeId)
  (ho : o.op = .call { callee := .builtin .append, args := #[s, x], argTypes := #[t, t] })
  (base : Nat) (e : TypeId) (i : TypeInfo) (z : Value) (size bytes : Nat) (ht : P.underlying t = some (.slice e)) (hi : P.info? e = some i) (hz : i.zero = some z)
  (hsize : i.size = size) (hby : i.bytes = bytes) (hzs : z.cells.size = size) (hsz : 0 < size)
  (v : Value) (n : Nat) (xs : List Value) (hs : a.eval s = v) (hown : w.ownsRow base e size v n xs)
  (B : Nat) (A : Option Addr) (m c : Nat) (news : List Value) (hx : a.eval x = .slice A m c) (hr : Reads w B size A m news) (h1 : ∀ u ∈ news, u.oneCell' = true)
  (h63 : n + m ≤ maxLen) (hbytes : (n + m) * bytes ≤ 140737488355328) (hbase : base ≤ w.heap.size)
  (h : ∀ v' w', w'.ownsRow base e size v' (n + m) (xs ++ news) → w.grownBy w' v.ownBlock → (v'.ownBlock = v.ownBlock ∨ v'.ownBlock = some w.heap.size) → K (a.put o.dst v') w') : o.wp P a w K Q := by
 obtain ⟨v', w', hrun, h2, h3, h4⟩ := run_append_any (P := P) w base t o.type e i z size bytes ht hi hz hsize hby hzs hsz v n xs hown B A m c news hr h1 h63 hbytes hbase
 unfold Oper.wp execOp
 simp only [ho, resolve, invoke, builtin, Sem.run_bind, Sem.run_pure, Result.andThen_ok, List.map_toArray, List.map_cons, List.map_nil, hs, hx, hrun]
 exact h v' w' h2 h3 h4
theorem wpList_append_any {ops : Array Oper} {rest : List Oper} {o : Oper} {a : Act} {Q : Exit → Act → World → Prop} (hgd : o.guard = none) (s x : Operand) (t : TypeId)
  (ho : o.op = .call { callee := .builtin .append, args := #[s, x], argTypes := #[t, t] })
  (base : Nat) (e : TypeId) (i : TypeInfo) (z : Value) (size bytes : Nat) (ht : P.underlying t = some (.slice e)) (hi : P.info? e = some i) (hz : i.zero = some z)
  (hsize : i.size = size) (hby : i.bytes = bytes) (hzs : z.cells.size = size) (hsz : 0 < size)
  (v : Value) (n : Nat) (xs : List Value) (hs : a.eval s = v) (hown : w.ownsRow base e size v n xs)
  (B : Nat) (A : Option Addr) (m c : Nat) (news : List Value) (hx : a.eval x = .slice A m c) (hr : Reads w B size A m news) (h1 : ∀ u ∈ news, u.oneCell' = true)
  (h63 : n + m ≤ maxLen) (hbytes : (n + m) * bytes ≤ 140737488355328) (hbase : base ≤ w.heap.size)
  (h : ∀ v' w', w'.ownsRow base e size v' (n + m) (xs ++ news) → w.grownBy w' v.ownBlock → (v'.ownBlock = v.ownBlock ∨ v'.ownBlock = some w.heap.size) → wpList P ops Q rest (a.put o.dst v') w') : wpList P ops Q (o :: rest) a w :=
 wpList_plain hgd fun _ hK => wp_append_any w s x t ho base e i z size bytes ht hi hz hsize hby hzs hsz v n xs hs hown B A m c news hx hr h1 h63 hbytes hbase fun v' w' h2 h3 h4 => hK _ _ (h v' w' h2 h3 h4)
theorem step_append_any {ops : Array Oper} {o : Oper} {a : Act} {K : Act → World → Prop} {Q : Exit → Act → World → Prop} {E : Prop} (hgd : o.guard = none) (s x : Operand) (t : TypeId)
  (ho : o.op = .call { callee := .builtin .append, args := #[s, x], argTypes := #[t, t] })
  (base : Nat) (e : TypeId) (i : TypeInfo) (z : Value) (size bytes : Nat) (ht : P.underlying t = some (.slice e)) (hi : P.info? e = some i) (hz : i.zero = some z)
  (hsize : i.size = size) (hby : i.bytes = bytes) (hzs : z.cells.size = size) (hsz : 0 < size)
  (v : Value) (n : Nat) (xs : List Value) (hs : a.eval s = v) (hown : w.ownsRow base e size v n xs)
  (B : Nat) (A : Option Addr) (m c : Nat) (news : List Value) (hx : a.eval x = .slice A m c) (hr : Reads w B size A m news) (h1 : ∀ u ∈ news, u.oneCell' = true)
  (h63 : n + m ≤ maxLen) (hbytes : (n + m) * bytes ≤ 140737488355328) (hbase : base ≤ w.heap.size)
  (h : ∀ v' w', w'.ownsRow base e size v' (n + m) (xs ++ news) → w.grownBy w' v.ownBlock → (v'.ownBlock = v.ownBlock ∨ v'.ownBlock = some w.heap.size) → K (a.put o.dst v') w') :
  if Region.wanted o (yielded ops a.tmps) = true then Oper.wp P o a w K Q else E := by
 have hw : Region.wanted o (yielded ops a.tmps) = true := by simp [Region.wanted, hgd]
 rw [if_pos hw]
 exact wp_append_any w s x t ho base e i z size bytes ht hi hz hsize hby hzs hsz v n xs hs hown B A m c news hx hr h1 h63 hbytes hbase h
end
theorem Hd {p : Prop} (h : p) : Hid p := h
theorem below_drewN {B : Nat} {a w : World} (h : Below B a w) (n : Nat) : Below B a (w.drewN n) := ⟨h.os, h.tape, h.output, h.size, h.block⟩
theorem only_of_below {a w : World} (h : Below a.heap.size a w) (row : Option Nat) : a.grownBy w row := ⟨h.os, h.tape, h.output, h.size, fun i hi _ => h.block i hi⟩
theorem run_make_rowN {P : Program} (t e : TypeId) (i : TypeInfo) (z : Value) (ht : P.underlying t = some (.slice e)) (hi : P.info? e = some i) (hz : i.zero = some z)
  (kl kc : IntKind) (n c : Nat) (hnc : n ≤ c) (hbytes : i.bytes * c ≤ 281474976710656) (h63 : c ≤ 9223372036854775807) (w : World) :
  (Instr.makeSlice t (.int kl (n : Int)) (.int kc (c : Int))).run P w = .ok (.slice (some ⟨w.heap.size, 0, none⟩) n c) (w.alloc (.cells (madeCells z.cells (c * i.size)) e)) := by
 have hb : (i.bytes : Int) * (c : Int) ≤ 281474976710656 := by
  have h : ((i.bytes * c : Nat) : Int) ≤ 281474976710656 := by omega
  rwa [Int.natCast_mul] at h
 have hr := run_make (P := P) w t e i z ht hi hz kl kc n c (by omega) (by omega) hb (by omega)
 simp only [Int.toNat_natCast] at hr
 exact hr
theorem ofInt_i64 (a : Nat) (ha : a < 9223372036854775808) : (BitVec.ofInt 64 (a : Int)).toNat = a := by
 rw [BitVec.ofInt_natCast, BitVec.toNat_ofNat]; exact Nat.mod_eq_of_lt (by omega)
section
variable {H : Type} {enc : TypeId × Value → H} {P : Program}
end
/-! ### more results -/
/-! ### bytes that read as a list, as a string -/
def IsBytes (l : List Int) : Prop := ∀ x ∈ l, 0 ≤ x ∧ x < 256
theorem reads_of_block {w : World} {g : Nat} {t : TypeId} {cs : Array Value} (h : Blk w g t cs) (n : Nat) (xs : List Value) (hx : xs.length = n) (hc : ∀ (j : Nat) (u : Value), xs[j]? = some u → cs[j]? = some u) :
  Reads w w.heap.size 1 (some ⟨g, 0, none⟩) n xs :=
 ⟨by omega, fun _ => ⟨_, rfl, h.lt, fun j u hu => by
  rw [show (⟨g, 0, none⟩ : Addr).add j = ⟨g, j, none⟩ from by unfold Addr.add; split <;> simp_all, h.cell j]
  exact hc j u hu⟩⟩
theorem reads_new (w : World) (t : TypeId) (xs : List Value) (n : Nat) (hn : xs.length = n) : Reads (w.alloc (.cells xs.toArray t)) (w.alloc (.cells xs.toArray t)).heap.size 1 (some ⟨w.heap.size, 0, none⟩) n xs :=
 reads_of_block (Blk.new w _ _) n xs hn (by simp)
theorem one_int {k : IntKind} {x : Int} : ∀ u ∈ [Value.int k x], u.oneCell' = true := by
 intro u hu
 simp at hu
 subst hu
 rfl
theorem le_alloc {n : Nat} {w : World} (o : Obj) (h : n ≤ w.heap.size) : n ≤ (w.alloc o).heap.size := by simp; omega
end
section
structure TD where
 kind : Int
 op : Int
 w : Int
 n : Int
 a : Int
 b : Int
 c : Int
deriving DecidableEq
def TD.cells (x : TD) : List Value := [.int .i8 x.kind, .int .i8 x.op, .int .i8 x.w, .int .u64 x.n, .int .i64 x.a, .int .i64 x.b, .int .i64 x.c]
def prtL (t : TD) : List Int := if t.kind = 2 ∨ t.kind = 4 then [t.a, t.b] else if t.kind = 3 then [t.a] else if t.kind = 5 then [t.a, t.b, t.c] else []
def likeT (t : TD) : TD :=
 if t.kind = 0 then ⟨0, 0, 0, t.n, 0, 0, 0⟩
 else if t.kind = 1 then ⟨1, 0, t.w, t.n, 0, 0, 0⟩
 else if t.kind = 2 then ⟨2, t.op, t.w, 0, t.a, t.b, 0⟩
 else if t.kind = 4 then ⟨4, t.op, t.w, 0, t.a, t.b, 0⟩
 else if t.kind = 3 then ⟨3, 0, t.w, 0, t.a, 0, 0⟩
 else if t.kind = 5 then ⟨5, 0, 0, 0, t.a, t.b, t.c⟩
 else ⟨t.kind, 0, 0, 0, 0, 0, 0⟩
def wdB (w : Int) : Bool := w == 8 || (w == 16 || (w == 32 || w == 64))
def askT (t : TD) : Bool :=
 if t.kind = 0 then true
 else if t.kind = 1 then wdB t.w
 else if t.kind = 2 then (t.w == 32 || t.w == 64) && (decide (0 ≤ t.op) && decide (t.op ≤ 12))
 else if t.kind = 4 then (t.w == 32 || t.w == 64) && (decide (0 ≤ t.op) && decide (t.op ≤ 10))
 else if t.kind = 3 then t.w != 64 && wdB t.w
 else decide (t.kind = 5)
def okF (t : TD) : Bool := askT t && decide (t = likeT t)
def hasB (T : List TD) (n : Int) : Bool := decide (0 ≤ n) && decide (n < T.length)
def varB (n : Int) (x : TD) : Bool := x.kind == 1 && x.n == n
def wideF (T : List TD) (n : Int) : Option Int := (T.find? (varB n)).map (·.w)
def clashB (T : List TD) (t : TD) : Bool := t.kind == 1 && (match wideF T t.n with | some w => w != t.w | none => false)
def okP (T : List TD) (t : TD) : Bool := okF t && ((prtL t).all (hasB T) && !clashB T t)
def dmax (D : List Int) (l : List Int) : Int := l.foldl (fun d n => max d (D.getD n.toNat 0 + 1)) 1
structure PS where
 T : List TD
 D : List Int
def atT (T : List TD) (t : TD) : Option Nat := T.findIdx? (fun x => decide (x = t))
def putP (p : PS) (t : TD) : PS := if okP p.T t = true ∧ atT p.T t = none ∧ p.T.length < 4000 ∧ dmax p.D (prtL t) ≤ 256 then ⟨p.T ++ [t], p.D ++ [dmax p.D (prtL t)]⟩ else p
def putN (p : PS) (t : TD) : Int × Int :=
 if okP p.T t = false then (0, 2) else match atT p.T t with
  | some i => ((i : Int), 0)
  | none => if 4000 ≤ p.T.length ∨ 256 < dmax p.D (prtL t) then (0, 260) else ((p.T.length : Int), 0)
theorem atT_some {T : List TD} {t : TD} {i : Nat} (h : atT T t = some i) : T[i]? = some t := by
 unfold atT at h
 obtain ⟨hi, hp, _⟩ := List.findIdx?_eq_some_iff_getElem.1 h
 simp at hp
 rw [List.getElem?_eq_getElem hi, hp]
theorem atT_none {T : List TD} {t : TD} (h : atT T t = none) : t ∉ T := by
 intro hm
 unfold atT at h
 rw [List.findIdx?_eq_none_iff] at h
 have := h t hm
 simp at this
theorem atT_mem {T : List TD} {t : TD} (h : t ∈ T) : ∃ i, atT T t = some i := by
 cases e : atT T t with
 | some i => exact ⟨i, rfl⟩
 | none => exact absurd h (atT_none e)
structure WfP (p : PS) : Prop where
 len : p.D.length = p.T.length
 few : p.T.length ≤ 4000
 ok : ∀ (i : Nat) (t : TD), p.T[i]? = some t → okF t = true
 part : ∀ (i : Nat) (t : TD), p.T[i]? = some t → ∀ k ∈ prtL t, 0 ≤ k ∧ k < (i : Int)
 deep : ∀ (i : Nat) (t : TD), p.T[i]? = some t → p.D[i]? = some (dmax p.D (prtL t))
 low : ∀ d ∈ p.D, 1 ≤ d ∧ d ≤ 256
 once : ∀ (i j : Nat) (t : TD), p.T[i]? = some t → p.T[j]? = some t → i = j
 wide : ∀ (i j : Nat) (t u : TD), p.T[i]? = some t → p.T[j]? = some u → t.kind = 1 → u.kind = 1 → t.n = u.n → t.w = u.w
theorem WfP.nil : WfP ⟨[], []⟩ := ⟨rfl, by simp, by simp, by simp, by simp, by simp, by simp, by simp⟩
theorem dmax_ge (D : List Int) : ∀ (l : List Int) (d : Int), d ≤ l.foldl (fun d n => max d (D.getD n.toNat 0 + 1)) d
 | [], d => Int.le_refl _
 | x :: r, d => Int.le_trans (Int.le_max_left _ _) (dmax_ge D r _)
theorem one_le_dmax (D : List Int) (l : List Int) : 1 ≤ dmax D l := dmax_ge D l 1
theorem dmax_app {D : List Int} (d' : Int) : ∀ (l : List Int), (∀ k ∈ l, 0 ≤ k ∧ k < (D.length : Int)) → ∀ a, l.foldl (fun d n => max d ((D ++ [d']).getD n.toNat 0 + 1)) a = l.foldl (fun d n => max d (D.getD n.toNat 0 + 1)) a := by
 intro l
 induction l with
 | nil => intro _ a; rfl
 | cons x r ih =>
  intro h a
  have hx := h x (by simp)
  rw [List.foldl_cons, List.foldl_cons, ih (fun k hk => h k (by simp [hk]))]
  congr 2
  rw [List.getD_eq_getElem?_getD, List.getD_eq_getElem?_getD, List.getElem?_append_left (by omega)]
theorem find_app {T : List TD} {n : Int} {t : TD} (h : wideF T n ≠ none) : wideF (T ++ [t]) n = wideF T n := by
 unfold wideF at h ⊢
 rw [List.find?_append]
 cases e : T.find? (varB n) with
 | none => rw [e] at h; exact absurd rfl h
 | some x => rfl
theorem wideF_new {T : List TD} {n : Int} {t : TD} (h : wideF T n = none) : wideF (T ++ [t]) n = if varB n t then some t.w else none := by
 unfold wideF at h ⊢
 rw [List.find?_append]
 cases e : T.find? (varB n) with
 | none =>
  rw [List.find?_singleton]
  cases varB n t <;> rfl
 | some x => rw [e] at h; cases h
theorem wideF_some {T : List TD} {n w : Int} (h : wideF T n = some w) : ∃ (i : Nat) (t : TD), T[i]? = some t ∧ t.kind = 1 ∧ t.n = n ∧ t.w = w := by
 unfold wideF at h
 rw [Option.map_eq_some_iff] at h
 obtain ⟨t, ht, rfl⟩ := h
 have h1 := List.mem_of_find?_eq_some ht
 have h2 := List.find?_some ht
 obtain ⟨i, hi⟩ := List.getElem?_of_mem h1
 unfold varB at h2
 simp at h2
 exact ⟨i, t, hi, h2.1, h2.2, rfl⟩
theorem wideF_none {T : List TD} {n : Int} (h : wideF T n = none) : ∀ t ∈ T, t.kind = 1 → t.n ≠ n := by
 intro t ht hk hn
 unfold wideF at h
 rw [Option.map_eq_none_iff, List.find?_eq_none] at h
 have := h t ht
 unfold varB at this
 simp [hk, hn] at this
theorem WfP.wideF {p : PS} (h : WfP p) {i : Nat} {t : TD} (ht : p.T[i]? = some t) (hk : t.kind = 1) : wideF p.T t.n = some t.w := by
 cases e : Go.Proofs.YtepagfkkjlbipaaGreat.wideF p.T t.n with
 | none => exact absurd rfl (wideF_none e t (List.mem_of_getElem? ht) hk)
 | some w =>
  obtain ⟨j, u, hu, hku, hn, hw⟩ := wideF_some e
  rw [← hw, h.wide i j t u ht hu hk hku hn.symm]
theorem okP_parts {T : List TD} {t : TD} (h : okP T t = true) : okF t = true ∧ (∀ k ∈ prtL t, 0 ≤ k ∧ k < (T.length : Int)) ∧ clashB T t = false := by
 unfold okP at h
 simp only [Bool.and_eq_true, List.all_eq_true, Bool.not_eq_true'] at h
 refine ⟨h.1, fun k hk => ?_, h.2.2⟩
 have := h.2.1 k hk
 unfold hasB at this
 simp at this
 exact this
theorem putP_cases (p : PS) (t : TD) : (putP p t = p ∧ ((okP p.T t = false ∧ putN p t = (0, 2)) ∨ (okP p.T t = true ∧ ∃ i : Nat, p.T[i]? = some t ∧ atT p.T t = some i ∧ putN p t = ((i : Int), 0)) ∨ (okP p.T t = true ∧ atT p.T t = none ∧ (4000 ≤ p.T.length ∨ 256 < dmax p.D (prtL t)) ∧ putN p t = (0, 260)))) ∨
  (okP p.T t = true ∧ atT p.T t = none ∧ p.T.length < 4000 ∧ dmax p.D (prtL t) ≤ 256 ∧ putP p t = ⟨p.T ++ [t], p.D ++ [dmax p.D (prtL t)]⟩ ∧ putN p t = ((p.T.length : Int), 0)) := by
 unfold putP putN
 cases ho : okP p.T t
 ·exact .inl ⟨by simp, .inl ⟨rfl, by simp⟩⟩
 ·cases ha : atT p.T t with
  | some i => exact .inl ⟨by simp, .inr (.inl ⟨rfl, i, atT_some ha, rfl, by simp⟩)⟩
  | none =>
   by_cases hl : 4000 ≤ p.T.length ∨ 256 < dmax p.D (prtL t)
   ·refine .inl ⟨?_, .inr (.inr ⟨rfl, rfl, hl, ?_⟩)⟩
    ·rw [if_neg (by rintro ⟨_, _, h1, h2⟩; omega)]
    ·simp [hl]
   ·refine .inr ⟨rfl, rfl, by omega, by omega, ?_, ?_⟩
    ·rw [if_pos ⟨rfl, rfl, by omega, by omega⟩]
    ·simp [hl]
theorem WfP.put {p : PS} (h : WfP p) (t : TD) : WfP (putP p t) := by
 rcases putP_cases p t with ⟨e, _⟩ | ⟨ho, ha, hl, hd, e, _⟩
 ·rw [e]; exact h
 ·rw [e]
  obtain ⟨h1, h2, h3⟩ := okP_parts ho
  have hnm := atT_none ha
  have hlen := h.len
  have key : ∀ (i : Nat) (u : TD), (p.T ++ [t])[i]? = some u → (p.T[i]? = some u ∧ i < p.T.length) ∨ (i = p.T.length ∧ u = t) := by
   intro i u hu
   rcases Nat.lt_trichotomy i p.T.length with hi | hi | hi
   ·rw [List.getElem?_append_left hi] at hu; exact .inl ⟨hu, hi⟩
   ·subst hi
    simp at hu
    exact .inr ⟨rfl, hu.symm⟩
   ·rw [List.getElem?_eq_none (by simp; omega)] at hu; cases hu
  have dm : ∀ l : List Int, (∀ k ∈ l, 0 ≤ k ∧ k < (p.T.length : Int)) → dmax (p.D ++ [dmax p.D (prtL t)]) l = dmax p.D l := fun l hl => dmax_app (D := p.D) (dmax p.D (prtL t)) l (fun k hk => by have := hl k hk; omega) 1
  have pl : ∀ (i : Nat) (u : TD), p.T[i]? = some u → ∀ k ∈ prtL u, 0 ≤ k ∧ k < (p.T.length : Int) := fun i u hu k hk => by
   have := h.part i u hu k hk
   have := (List.getElem?_eq_some_iff.1 hu).1
   omega
  refine ⟨by simp [hlen], by simp; omega, fun i u hu => ?_, fun i u hu => ?_, fun i u hu => ?_, fun d hd' => ?_, fun i j u hi hj => ?_, fun i j u v hi hj ku kv hn => ?_⟩
  ·rcases key i u hu with ⟨q, _⟩ | ⟨_, rfl⟩
   ·exact h.ok i u q
   ·exact h1
  ·rcases key i u hu with ⟨q, _⟩ | ⟨rfl, rfl⟩
   ·exact h.part i u q
   ·exact h2
  ·dsimp only at hu ⊢
   rcases key i u hu with ⟨q, hi⟩ | ⟨rfl, rfl⟩
   ·rw [List.getElem?_append_left (by omega), dm _ (pl i u q)]
    exact h.deep i u q
   ·rw [dm _ h2, ← hlen]
    simp
  ·dsimp only at hd'
   rw [List.mem_append, List.mem_singleton] at hd'
   rcases hd' with q | rfl
   ·exact h.low d q
   ·exact ⟨one_le_dmax _ _, hd⟩
  ·rcases key i u hi with ⟨q1, l1⟩ | ⟨rfl, rfl⟩ <;> rcases key j _ hj with ⟨q2, l2⟩ | ⟨rfl, e2⟩
   ·exact h.once i j u q1 q2
   ·subst e2; exact absurd (List.mem_of_getElem? q1) hnm
   ·exact absurd (List.mem_of_getElem? q2) hnm
   ·rfl
  ·have cl : ∀ (j : Nat) (v : TD), p.T[j]? = some v → v.kind = 1 → t.kind = 1 → v.n = t.n → v.w = t.w := by
    intro j v hv kv kt hnn
    have := h.wideF hv kv
    unfold clashB at h3
    rw [← hnn, this, kt] at h3
    simpa using h3
   rcases key i u hi with ⟨q1, l1⟩ | ⟨rfl, rfl⟩ <;> rcases key j v hj with ⟨q2, l2⟩ | ⟨rfl, rfl⟩
   ·exact h.wide i j u v q1 q2 ku kv hn
   ·exact cl i u q1 ku kv hn
   ·exact (cl j v q2 kv ku hn.symm).symm
   ·rfl
theorem okP_there {p : PS} (h : WfP p) {i : Nat} {t : TD} (ht : p.T[i]? = some t) : okP p.T t = true := by
 have hi := (List.getElem?_eq_some_iff.1 ht).1
 unfold okP
 simp only [Bool.and_eq_true, List.all_eq_true, Bool.not_eq_true']
 refine ⟨h.ok i t ht, fun k hk => ?_, ?_⟩
 ·have := h.part i t ht k hk
  unfold hasB
  simp
  omega
 ·unfold clashB
  by_cases hk : t.kind = 1
  ·rw [h.wideF ht hk]; simp
  ·have : (t.kind == 1) = false := by simpa using hk
   rw [this]; rfl
theorem put_there {p : PS} (h : WfP p) {i : Nat} {t : TD} (ht : p.T[i]? = some t) : putP p t = p ∧ putN p t = ((i : Int), 0) := by
 have ho := okP_there h ht
 obtain ⟨j, hj⟩ := atT_mem (List.mem_of_getElem? ht)
 have hij := h.once i j t ht (atT_some hj)
 subst hij
 rcases putP_cases p t with ⟨e, ⟨o, q⟩ | ⟨_, k, hk, ha, q⟩ | ⟨_, ha, _⟩⟩ | ⟨_, ha, _⟩
 ·rw [ho] at o; cases o
 ·rw [hj] at ha; injection ha with ha; subst ha; exact ⟨e, q⟩
 ·rw [hj] at ha; cases ha
 ·rw [hj] at ha; cases ha
def putAll (p : PS) : List TD → PS
 | [] => p
 | t :: r => putAll (putP p t) r
end
end Go.Proofs.YtepagfkkjlbipaaGreat
