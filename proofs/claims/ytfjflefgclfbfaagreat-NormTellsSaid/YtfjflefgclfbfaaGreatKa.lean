/-
  Small words on memory, on bytes and on the row's last step, for the proofs of this seat: a slice that reads as a list, a block that is known whole, an append onto a row of the call's own, bytes as a string. No condition of its own: each lemma bears its premises.
  Aggregates of several cells: loaded from a row's middle, laid into a new variable, read at an index. Conditions: those written in each statement.
  What a datum of a type without pointers looks like in memory: its cells, one behind the other; slices of such. Conditions: those written in each statement.
  Equality of data without pointers: all cells equal. Conditions: those written in each statement.
  An aggregate stored into a block's middle; a slice cut from a number on, its address under a name. Conditions: those written in each statement.
  More laws on aggregates stored: a variable just made. Conditions: those written in each statement.
  A map that the call itself has made, as a function of plain keys: made, read, written. Conditions: those written in each statement.
  Structs and arrays of integers as keys of a map. Conditions: those written in each statement.
  One element laid into a slice and appended to a row of the call's own, whatever the element's size. Conditions: those written in each statement.
  Loads of aggregates, and operations on them, inside a region that only reads: laws for its lexical walk. Conditions: those written in each statement.
  A load of an aggregate, guarded and wanted, inside a region that only reads. Conditions: those written in each statement.
  A row of the call's own, cut or whole. Conditions: those written in each statement.
  Arguments of a law opened: a slice of bytes. Conditions: those written in each statement.
  A region that draws its order, reads cells, and writes them at its end: loads may be taken first, under a condition on the world that holds till the writes begin. Conditions: those written in each statement.
  Stores and appends at an operation of a region that draws its order. Conditions: those written in each statement.
  Maps written at an operation of a region that draws its order. Conditions: those written in each statement.
  A map's read inside a region that only reads. Conditions: those written in each statement.
-/
import Derived.WalkKit
import Derived.WalkSpells
import Derived.WalkLawsBesides
import Derived.ProofKit
import Derived.OpenShut
import Derived.ShutString
import Derived.Below
import Derived.Laws.OwnMore
import Derived.Deep.AppendLies
import Derived.Deep.Draws
import Derived.Laws.Rows
import Derived.Maps.AppendAt
import Derived.RegionTactic
import Derived.OwnWalk
import Derived.Deep.QuietTactic
import Derived.BigQuiet
import Derived.Deep.OwnRows
import Derived.Laws.AppendOwn
import Derived.Laws.MakeOwn
import Derived.Laws.Entries
import Derived.Laws.BitsAllLaws
import Derived.Laws.BitsLemmas
import Derived.Laws.BytesArg
import Derived.Lib.Strings
import Derived.ChangeSame
import Derived.Tactics
import Derived.Deep.Slices
import Derived.Deep.Fields
import Derived.Laws.CopyRow
import Derived.Laws.Slices
import Derived.BigFrame
import Derived.Maps.Own
import Derived.Maps.OwnOps
import Derived.DeepKeys5
import Derived.ChangeOld
import Derived.OrdersHeld
import Derived.Deep.RegionHeld
import Derived.BigRegion
section
namespace Go.Proofs.YtfjflefgclfbfaaGreat
open Go.RowKit Go.WideShapes Go.ChangeShapes
set_option linter.unusedVariables false
set_option linter.unusedSimpArgs false

theorem block_of_add (a : Addr) (n : Nat) : (a.add n).block = a.block := by unfold Addr.add; split <;> rfl
theorem add_of_add (a : Addr) (i j : Nat) : (a.add i).add j = a.add (i + j) := by
  unfold Addr.add
  by_cases hi : i = 0 <;> by_cases hj : j = 0 <;> simp [hi, hj, Nat.add_assoc]

def Reads (w : World) (B size : Nat) (A : Option Addr) (n : Nat) (xs : List Value) : Prop :=
  xs.length = n * size ∧ (0 < n → ∃ ad, A = some ad ∧ ad.block < B ∧ ∀ j u, xs[j]? = some u → w.cell? (ad.add j) = some u)

section
variable {w w' : World} {B B' size n : Nat} {A : Option Addr} {xs : List Value}
theorem Reads.none_ : Reads w B size A 0 [] := ⟨by simp, fun h => absurd h (by omega)⟩
theorem Reads.at_ {k : Nat} (h : Reads w B 1 A n xs) (hk : k < n) : ∃ ad u, A = some ad ∧ ad.block < B ∧ xs[k]? = some u ∧ w.cell? (ad.add k) = some u := by
  obtain ⟨ad, e, hb, hc⟩ := h.2 (by omega)
  have hl : k < xs.length := by have := h.1; omega
  exact ⟨ad, xs[k], e, hb, List.getElem?_eq_getElem hl, hc k _ (List.getElem?_eq_getElem hl)⟩
theorem Reads.keep (h : Reads w B size A n xs) (hk : ∀ p : Addr, p.block < B → w'.cell? p = w.cell? p) : Reads w' B size A n xs :=
  ⟨h.1, fun hn => by
    obtain ⟨ad, e, hb, hc⟩ := h.2 hn
    exact ⟨ad, e, hb, fun j u hu => (hk _ (by rw [block_of_add]; exact hb)).trans (hc j u hu)⟩⟩
theorem Reads.more (h : Reads w B size A n xs) (hB : B ≤ B') : Reads w B' size A n xs :=
  ⟨h.1, fun hn => by
    obtain ⟨ad, e, hb, hc⟩ := h.2 hn
    exact ⟨ad, e, by omega, hc⟩⟩
theorem Reads.below (h : Reads w B size A n xs) (hb : Below B w w') : Reads w' B size A n xs := h.keep fun _ hp => hb.cell hp
theorem Reads.drew (h : Reads w B size A n xs) : Reads w.drew B size A n xs := h
theorem Reads.drewN (h : Reads w B size A n xs) (k : Nat) : Reads (w.drewN k) B size A n xs := h
theorem Reads.alloc (h : Reads w B size A n xs) (hB : B ≤ w.heap.size) (o : Obj) : Reads (w.alloc o) B size A n xs := h.keep fun p hp => World.cell?_alloc_lt w o p (by omega)
theorem Reads.setCell (h : Reads w B size A n xs) {p : Addr} (hB : B ≤ p.block) (u : Value) : Reads (w.setCell p u) B size A n xs :=
  h.keep fun q hq => World.cell?_setCell_other w p q u (fun e => by subst e; omega)
theorem Reads.grown (h : Reads w B size A n xs) {row : Option Nat} (hg : w.grownBy w' row) (hB : B ≤ w.heap.size) (hr : ∀ g, row = some g → B ≤ g) : Reads w' B size A n xs :=
  h.keep fun p hp => World.cell?_of_block (hg.block p.block (by omega) (fun e => by have := hr _ e.symm; omega))
theorem Reads.cut (h : Reads w B size A n xs) {k cap : Nat} (hk : k ≤ n) (hc : n ≤ cap) :
    Reads w B size (if cap = k then A else A.map (·.add (k * size))) (n - k) (xs.drop (k * size)) := by
  refine ⟨by rw [List.length_drop, h.1, Nat.sub_mul], fun hn => ?_⟩
  obtain ⟨ad, rfl, hb, hcell⟩ := h.2 (by omega)
  rw [if_neg (by omega)]
  refine ⟨ad.add (k * size), rfl, by rw [block_of_add]; exact hb, fun j u hu => ?_⟩
  rw [add_of_add]
  exact hcell _ u (by rw [← hu, List.getElem?_drop])
theorem Reads.of_own {base : Nat} {e : TypeId} {c : Nat} (h : w.ownsRow base e size (.slice A n c) n xs) : Reads w w.heap.size size A n xs := by
  refine ⟨h.1, fun hn => ?_⟩
  obtain ⟨g, cap, hv, _, hlt⟩ := h.form hn
  have hA : A = some ⟨g, 0, none⟩ := by injection hv
  subst hA
  exact ⟨_, rfl, hlt, h.cells (g := g) rfl⟩
end

def Blk (w : World) (g : Nat) (t : TypeId) (cs : Array Value) : Prop := w.heap[g]? = some (.cells cs t (0, 0))

section
variable {w w' : World} {g : Nat} {t : TypeId} {cs : Array Value}
theorem Blk.lt (h : Blk w g t cs) : g < w.heap.size := by
  rcases Nat.lt_or_ge g w.heap.size with hlt | hge
  · exact hlt
  · unfold Blk at h; rw [Array.getElem?_eq_none hge] at h; cases h
theorem Blk.cell (h : Blk w g t cs) (i : Nat) : w.cell? ⟨g, i, none⟩ = cs[i]? := cell_of_row w g i cs t (0, 0) h
theorem Blk.frozen (h : Blk w g t cs) (i : Nat) : w.frozen? ⟨g, i, none⟩ = false := by
  unfold Blk at h
  simp [World.frozen?, h]
theorem Blk.new (w : World) (t : TypeId) (cs : Array Value) : Blk (w.alloc (.cells cs t)) w.heap.size t cs := heap_alloc_new w _
theorem Blk.drew (h : Blk w g t cs) : Blk w.drew g t cs := h
theorem Blk.drewN (h : Blk w g t cs) (n : Nat) : Blk (w.drewN n) g t cs := h
theorem Blk.alloc (h : Blk w g t cs) (o : Obj) : Blk (w.alloc o) g t cs := (Below.heap_alloc w o g h.lt).trans h
theorem Blk.set_ (h : Blk w g t cs) (i : Nat) (u : Value) : Blk (w.setCell ⟨g, i, none⟩ u) g t (cs.setIfInBounds i u) := by
  unfold Blk at h ⊢
  simp [World.setCell, Array.getElem?_modify, h]
theorem Blk.far (h : Blk w g t cs) {p : Addr} (hp : g ≠ p.block) (u : Value) : Blk (w.setCell p u) g t cs := (Below.heap_setCell w p u g hp).trans h
theorem Blk.below {B : Nat} (h : Blk w g t cs) (hb : Below B w w') (hg : g < B) : Blk w' g t cs := (hb.block g hg).trans h
theorem Blk.grown {row : Option Nat} (h : Blk w g t cs) (hb : w.grownBy w' row) (hg : some g ≠ row) : Blk w' g t cs := (hb.block g h.lt hg).trans h
theorem Blk.ne_ {g' : Nat} {t' : TypeId} {cs' : Array Value} (h : Blk w g t cs) (h' : Blk w g' t' cs') (hne : t ≠ t') : g ≠ g' := by
  rintro rfl
  unfold Blk at h h'
  rw [h] at h'
  injection h' with h'
  injection h' with _ ht
  exact hne ht
theorem own_blk_ne {base : Nat} {e : TypeId} {size n : Nat} {v : Value} {xs : List Value} (h : w.ownsRow base e size v n xs) (hg : Blk w g t cs) (hne : e ≠ t) : v.ownBlock ≠ some g := by
  rcases h.2 with ⟨rfl, _⟩ | ⟨g', cap, cur, rfl, _, hh, _⟩
  · simp [Value.ownBlock]
  · intro he
    have : g' = g := by simpa [Value.ownBlock] using he
    subst this
    exact Blk.ne_ (t := e) hh hg hne rfl
end

section
variable {P : Program} (w : World)

theorem run_append_of_nil (base : Nat) (t ty e : TypeId) (i : TypeInfo) (size : Nat) (ht : P.underlying t = some (.slice e)) (hi : P.info? e = some i)
    (v : Value) (n : Nat) (xs : List Value) (hown : w.ownsRow base e size v n xs) (c : Nat) : (Builtin.append_ #[t, t] ty #[v, .slice none 0 c]).run P w = .ok v w := by
  rcases hown.2 with ⟨rfl, rfl⟩ | ⟨g, cap, cur, rfl, _, _, hnc, _⟩
  · simp [Builtin.append_, run_underlying ht, sizeOf, typeInfo, hi, Builtin.lenOf, Builtin.firstCells]
  · simp [Builtin.append_, run_underlying ht, sizeOf, typeInfo, hi, Builtin.lenOf, Builtin.firstCells, hnc, storeCells]

theorem run_append_any (base : Nat) (t ty e : TypeId) (i : TypeInfo) (z : Value) (size bytes : Nat) (ht : P.underlying t = some (.slice e)) (hi : P.info? e = some i) (hz : i.zero = some z)
    (hsize : i.size = size) (hby : i.bytes = bytes) (hzs : z.cells.size = size) (hsz : 0 < size)
    (v : Value) (n : Nat) (xs : List Value) (hown : w.ownsRow base e size v n xs)
    (B : Nat) (A : Option Addr) (m c : Nat) (news : List Value) (hr : Reads w B size A m news) (h1 : ∀ u ∈ news, u.oneCell' = true)
    (h63 : n + m ≤ maxLen) (hbytes : (n + m) * bytes ≤ 140737488355328) (hbase : base ≤ w.heap.size) :
    ∃ v' w', (Builtin.append_ #[t, t] ty #[v, .slice A m c]).run P w = .ok v' w' ∧ w'.ownsRow base e size v' (n + m) (xs ++ news) ∧ w.grownBy w' v.ownBlock ∧
      (v'.ownBlock = v.ownBlock ∨ v'.ownBlock = some w.heap.size) := by
  rcases A with _ | ad
  · have hm : m = 0 := by
      rcases Nat.eq_zero_or_pos m with h0 | h0
      · exact h0
      · obtain ⟨ad, h, _⟩ := hr.2 h0
        cases h
    subst hm
    have hn : news = [] := List.eq_nil_of_length_eq_zero (by simpa using hr.1)
    subst hn
    exact ⟨v, w, run_append_of_nil w base t ty e i size ht hi v n xs hown c, by simpa using hown, World.grownBy.refl w _, .inl rfl⟩
  · have hcells : ∀ j u, news[j]? = some u → w.cell? (ad.add j) = some u := by
      intro j u hu
      rcases Nat.eq_zero_or_pos m with h0 | h0
      · subst h0
        have hn : news = [] := List.eq_nil_of_length_eq_zero (by simpa using hr.1)
        subst hn
        simp at hu
      · obtain ⟨ad', h, _, hc⟩ := hr.2 h0
        injection h with h
        subst h
        exact hc j u hu
    obtain ⟨v', w', hrun, h2, h3, _, h5⟩ := run_append_own_at (P := P) w base t ty e i z size bytes ht hi hz hsize hby hzs hsz v n xs hown ad m c news hr.1 hcells h1 h63 hbytes hbase
    exact ⟨v', w', hrun, h2, h3, h5⟩

theorem wp_append_any {o : Oper} {a : Act} {K : Act → World → Prop} {Q : Exit → Act → World → Prop} (s x : Operand) (t : TypeId)
    (ho : o.op = .call { callee := .builtin .append, args := #[s, x], argTypes := #[t, t] })
    (base : Nat) (e : TypeId) (i : TypeInfo) (z : Value) (size bytes : Nat) (ht : P.underlying t = some (.slice e)) (hi : P.info? e = some i) (hz : i.zero = some z)
    (hsize : i.size = size) (hby : i.bytes = bytes) (hzs : z.cells.size = size) (hsz : 0 < size)
    (v : Value) (n : Nat) (xs : List Value) (hs : a.eval s = v) (hown : w.ownsRow base e size v n xs)
    (B : Nat) (A : Option Addr) (m c : Nat) (news : List Value) (hx : a.eval x = .slice A m c) (hr : Reads w B size A m news) (h1 : ∀ u ∈ news, u.oneCell' = true)
    (h63 : n + m ≤ maxLen) (hbytes : (n + m) * bytes ≤ 140737488355328) (hbase : base ≤ w.heap.size)
    (h : ∀ v' w', w'.ownsRow base e size v' (n + m) (xs ++ news) → w.grownBy w' v.ownBlock → (v'.ownBlock = v.ownBlock ∨ v'.ownBlock = some w.heap.size) → K (a.put o.dst v') w') : o.wp P a w K Q := by
  obtain ⟨v', w', hrun, h2, h3, h4⟩ := run_append_any (P := P) w base t o.type e i z size bytes ht hi hz hsize hby hzs hsz v n xs hown B A m c news hr h1 h63 hbytes hbase
  unfold Oper.wp execOp
  simp only [ho, resolve, invoke, builtin, Sem.run_bind, Sem.run_pure, Result.andThen_ok, List.map_toArray, List.map_cons, List.map_nil, hs, hx, hrun]
  exact h v' w' h2 h3 h4

theorem wpList_append_any {ops : Array Oper} {rest : List Oper} {o : Oper} {a : Act} {Q : Exit → Act → World → Prop} (hgd : o.guard = none) (s x : Operand) (t : TypeId)
    (ho : o.op = .call { callee := .builtin .append, args := #[s, x], argTypes := #[t, t] })
    (base : Nat) (e : TypeId) (i : TypeInfo) (z : Value) (size bytes : Nat) (ht : P.underlying t = some (.slice e)) (hi : P.info? e = some i) (hz : i.zero = some z)
    (hsize : i.size = size) (hby : i.bytes = bytes) (hzs : z.cells.size = size) (hsz : 0 < size)
    (v : Value) (n : Nat) (xs : List Value) (hs : a.eval s = v) (hown : w.ownsRow base e size v n xs)
    (B : Nat) (A : Option Addr) (m c : Nat) (news : List Value) (hx : a.eval x = .slice A m c) (hr : Reads w B size A m news) (h1 : ∀ u ∈ news, u.oneCell' = true)
    (h63 : n + m ≤ maxLen) (hbytes : (n + m) * bytes ≤ 140737488355328) (hbase : base ≤ w.heap.size)
    (h : ∀ v' w', w'.ownsRow base e size v' (n + m) (xs ++ news) → w.grownBy w' v.ownBlock → (v'.ownBlock = v.ownBlock ∨ v'.ownBlock = some w.heap.size) → wpList P ops Q rest (a.put o.dst v') w') : wpList P ops Q (o :: rest) a w :=
  wpList_plain hgd fun _ hK => wp_append_any w s x t ho base e i z size bytes ht hi hz hsize hby hzs hsz v n xs hs hown B A m c news hx hr h1 h63 hbytes hbase fun v' w' h2 h3 h4 => hK _ _ (h v' w' h2 h3 h4)

end

theorem hide {p : Prop} (h : p) : Hid p := h
theorem below_drewN {B : Nat} {a w : World} (h : Below B a w) (n : Nat) : Below B a (w.drewN n) := ⟨h.os, h.tape, h.output, h.size, h.block⟩
section
variable {H : Type} {enc : TypeId × Value → H} {P : Program}
end

/-! ### more results -/
/-! ### bytes that read as a list, as a string -/
def IsBytes (l : List Int) : Prop := ∀ x ∈ l, 0 ≤ x ∧ x < 256
theorem reads_of_block {w : World} {g : Nat} {t : TypeId} {cs : Array Value} (h : Blk w g t cs) (n : Nat) (xs : List Value) (hx : xs.length = n) (hc : ∀ (j : Nat) (u : Value), xs[j]? = some u → cs[j]? = some u) :
    Reads w w.heap.size 1 (some ⟨g, 0, none⟩) n xs :=
  ⟨by omega, fun _ => ⟨_, rfl, h.lt, fun j u hu => by
    rw [show (⟨g, 0, none⟩ : Addr).add j = ⟨g, j, none⟩ from by unfold Addr.add; split <;> simp_all, h.cell j]
    exact hc j u hu⟩⟩

/-- A row that a statement has just laid. -/
theorem reads_new (w : World) (t : TypeId) (xs : List Value) (n : Nat) (hn : xs.length = n) : Reads (w.alloc (.cells xs.toArray t)) (w.alloc (.cells xs.toArray t)).heap.size 1 (some ⟨w.heap.size, 0, none⟩) n xs :=
  reads_of_block (Blk.new w _ _) n xs hn (by simp)
theorem one_int {k : IntKind} {x : Int} : ∀ u ∈ [Value.int k x], u.oneCell' = true := by
  intro u hu
  simp at hu
  subst hu
  rfl
theorem le_alloc {n : Nat} {w : World} (o : Obj) (h : n ≤ w.heap.size) : n ≤ (w.alloc o).heap.size := by simp; omega

end Go.Proofs.YtfjflefgclfbfaaGreat
end
section
namespace Go.Proofs.YtfjflefgclfbfaaGreat
open Go.RowKit
set_option linter.unusedVariables false
set_option linter.unusedSimpArgs false

def aggD : TypeDesc → Bool
  | .struct _ | .array _ _ => true
  | _ => false

section
variable {P : Program}
theorem run_isAgg_ {t : TypeId} {d : TypeDesc} (hu : P.underlying t = some d) (hd : aggD d = true) (w : World) : (isAgg t).run P w = .ok true w := by
  unfold isAgg
  rw [Sem.run_bind, run_underlying hu w]
  cases d <;> simp_all [aggD]

theorem run_loadVar_at (w : World) (ad : Addr) (ty : TypeId) (cs : List Value) (d : TypeDesc) (hc : ∀ j u, cs[j]? = some u → w.cell? (ad.add j) = some u)
    (hu : P.underlying ty = some d) (hd : aggD d = true) (hi : (P.info? ty).map (·.size) = some cs.length) : (loadVar ty ad).run P w = .ok (.agg cs.toArray) w := by
  have hl := run_loadCells_list (P := P) w ad cs hc
  cases hq : P.info? ty with
  | none => simp [hq] at hi
  | some i =>
    have hs : i.size = cs.length := by simpa [hq] using hi
    simp [loadVar, Sem.run_bind, run_isAgg_ hu hd w, sizeOf, typeInfo, hq, hs, hl]

theorem wpList_load_at {ops : Array Oper} {rest : List Oper} {o : Oper} {a : Act} {w : World} {Q : Exit → Act → World → Prop} (hgd : o.guard = none) (ty : TypeId) (x : Operand) (ho : o.op = .load ty x)
    (ad : Addr) (hx : a.eval x = .pointer (some ad)) (cs : List Value) (d : TypeDesc) (hc : ∀ j u, cs[j]? = some u → w.cell? (ad.add j) = some u)
    (hu : P.underlying ty = some d) (hd : aggD d = true) (hi : (P.info? ty).map (·.size) = some cs.length)
    (h : wpList P ops Q rest (a.put o.dst (.agg cs.toArray)) w) : wpList P ops Q (o :: rest) a w :=
  wpList_plain hgd fun _ hK => by
    unfold Oper.wp execOp
    simp only [ho, hx, Instr.loadAt, Instr.sureAddr, Sem.run_bind, Sem.run_pure, Result.andThen_ok, run_loadVar_at w ad ty cs d hc hu hd hi]
    exact hK _ _ h

theorem run_index_one (w : World) (t e : TypeId) (len : Nat) (cs : Array Value) (kd : IntKind) (i : Nat) (d : TypeDesc) (v : Value) (ht : P.underlying t = some (.array len e)) (he : P.underlying e = some d) (hd : aggD d = false)
    (hsz : (P.info? e).map (·.size) = some 1) (hi : i < len) (hv : cs[i]? = some v) : (Instr.index t (.agg cs) (.int kd (i : Int))).run P w = .ok v w := by
  have hagg : (isAgg e).run P w = .ok false w := by
    unfold isAgg
    rw [Sem.run_bind, run_underlying he w]
    cases d <;> simp_all [aggD]
  cases hq : P.info? e with
  | none => simp [hq] at hsz
  | some i0 =>
    have hs : i0.size = 1 := by simpa [hq] using hsz
    simp [Instr.index, run_underlying ht, hi, sizeOf, typeInfo, hq, hs, part, Sem.run_bind, hagg, asIntOf, hv]

end
theorem blk_list {w : World} {g : Nat} {t : TypeId} {l : List Value} (h : Blk w g t l.toArray) : ∀ j u, l[j]? = some u → w.cell? ((⟨g, 0, none⟩ : Addr).add j) = some u := by
  intro j u hu
  rw [show (⟨g, 0, none⟩ : Addr).add j = ⟨g, j, none⟩ from by unfold Addr.add; split <;> simp_all, h.cell j]
  simpa using hu
end Go.Proofs.YtfjflefgclfbfaaGreat
end
section
namespace Go.Proofs.YtfjflefgclfbfaaGreat
open Go.RowKit Go.WideShapes Go.ChangeShapes Go.Deep
set_option linter.unusedVariables false
set_option linter.unusedSimpArgs false
def flatFs (g : TypeId → Option (List (Option IntKind))) : List Field → Nat → Option (List (Option IntKind))
  | [], _ => some []
  | f :: r, off => if f.offset = off then (g f.type).bind fun a => (flatFs g r (off + a.length)).map (a ++ ·) else none
/-- The kinds of a type's cells (none: a bool). -/
def flatK (P : Program) : Nat → TypeId → Option (List (Option IntKind))
  | 0, _ => none
  | m + 1, t =>
    (match P.underlying t with
    | some .bool => some [none]
    | some (.int k) => some [some k]
    | some (.struct fs) => flatFs (flatK P m) fs.toList 0
    | some (.array n e) => (flatK P m e).map fun l => (List.replicate n l).flatten
    | _ => none).bind fun l => if P.cellsOf t = l.length then some l else none
def cellK : Option IntKind → Value → Prop
  | none, v => ∃ b, v = .bool b
  | some k, v => ∃ n, v = .int k n ∧ (Lit.int k n).wf = true
def AllK (ks : List (Option IntKind)) (cs : List Value) : Prop := cs.length = ks.length ∧ ∀ (i : Nat) (k : Option IntKind) (v : Value), ks[i]? = some k → cs[i]? = some v → cellK k v
theorem AllK.append {a b : List (Option IntKind)} {x y : List Value} (h : AllK a x) (g : AllK b y) : AllK (a ++ b) (x ++ y) := by
  refine ⟨by simp [h.1, g.1], fun i k v hk hv => ?_⟩
  rw [List.getElem?_append] at hk hv
  by_cases hi : i < a.length
  · rw [if_pos hi] at hk
    rw [if_pos (by rw [h.1]; exact hi)] at hv
    exact h.2 i k v hk hv
  · rw [if_neg hi] at hk
    rw [if_neg (by rw [h.1]; exact hi), h.1] at hv
    exact g.2 _ k v hk hv
theorem AllK.nil : AllK [] [] := ⟨rfl, fun i k v hk _ => by simp at hk⟩
theorem AllK.one {cs : List Value} {ks : List (Option IntKind)} (h : AllK ks cs) : ∀ v ∈ cs, v.oneCell' = true := by
  intro v hv
  obtain ⟨i, hi, rfl⟩ := List.getElem_of_mem hv
  have hik : i < ks.length := by have := h.1; omega
  have h2 := h.2 i ks[i] cs[i] (List.getElem?_eq_getElem hik) (List.getElem?_eq_getElem hi)
  generalize ks[i] = k at h2
  cases k with
  | none => obtain ⟨b, hb⟩ := h2; rw [hb]; rfl
  | some k => obtain ⟨n, hn, _⟩ := h2; rw [hn]; rfl
theorem flatK_len {P : Program} {m : Nat} {t : TypeId} {ks : List (Option IntKind)} (h : flatK P m t = some ks) : P.cellsOf t = ks.length := by
  cases m with
  | zero => simp [flatK] at h
  | succ m =>
    unfold flatK at h
    obtain ⟨l, _, h2⟩ := Option.bind_eq_some_iff.1 h
    split at h2
    · injection h2 with h2; subst h2; assumption
    · cases h2
theorem flatFs_all {g : TypeId → Option (List (Option IntKind))} {cs : List Value} : ∀ (fs : List Field) (off : Nat) (ks : List (Option IntKind)), (∀ f ∈ fs, ∀ a, g f.type = some a → AllK a ((cs.drop f.offset).take a.length)) → flatFs g fs off = some ks → AllK ks ((cs.drop off).take ks.length)
  | [], off, ks, _, h => by
    simp [flatFs] at h
    subst h
    simpa using AllK.nil
  | f :: r, off, ks, hg, h => by
    unfold flatFs at h
    split at h
    · rename_i ho
      obtain ⟨a, ha, h2⟩ := Option.bind_eq_some_iff.1 h
      obtain ⟨b, hb, rfl⟩ := Option.map_eq_some_iff.1 h2
      have h1 := hg f (by simp) a ha
      have h3 := flatFs_all r (off + a.length) b (fun f' hf' => hg f' (by simp [hf'])) hb
      rw [ho] at h1
      rw [List.length_append, List.take_add, List.drop_drop]
      exact h1.append h3
    · cases h
theorem flat_rep {l : List (Option IntKind)} {cs : List Value} : ∀ (n off : Nat), (∀ i, i < n → AllK l ((cs.drop (off + i * l.length)).take l.length)) → AllK (List.replicate n l).flatten ((cs.drop off).take (n * l.length))
  | 0, off, _ => by simpa using AllK.nil
  | n + 1, off, h => by
    have h1 := h 0 (by omega)
    have h2 := flat_rep n (off + l.length) (fun i hi => by
      have := h (i + 1) (by omega)
      rw [Nat.succ_mul] at this
      rwa [show off + l.length + i * l.length = off + (i * l.length + l.length) by omega])
    rw [List.replicate_succ, List.flatten_cons, show (n + 1) * l.length = l.length + n * l.length by rw [Nat.succ_mul]; omega, List.take_add, List.drop_drop]
    rw [Nat.zero_mul, Nat.add_zero] at h1
    exact h1.append h2
section
variable {H : Type} {enc : TypeId × Value → H} {P : Program} {w : World} {base : Nat} {spare : Nat → Bool} {held : Bool}
theorem trod_flat : ∀ (m : Nat) (t : TypeId) (ks : List (Option IntKind)) (fuel : Nat) (cs : List Value) (x : DataW H × List MemPlace), flatK P m t = some ks → DataW.trod enc P w base spare held fuel t cs = some x → AllK ks cs := by
  intro m
  induction m with
  | zero => intro t ks fuel cs x h; simp [flatK] at h
  | succ m ih =>
    intro t ks fuel cs x hk h
    have hlen := flatK_len hk
    unfold flatK at hk
    obtain ⟨l, hl, h2⟩ := Option.bind_eq_some_iff.1 hk
    have hlk : l = ks := by
      split at h2
      · injection h2
      · cases h2
    subst hlk
    clear hk h2
    split at hl
    · rename_i hu
      injection hl with hl
      subst hl
      obtain ⟨b, rfl, _⟩ := DataW.trod_bool hu h
      refine ⟨rfl, fun i k v hk hv => ?_⟩
      cases i with
      | zero => simp at hk hv; subst hk hv; exact ⟨b, rfl⟩
      | succ i => simp at hk
    · rename_i k0 hu
      injection hl with hl
      subst hl
      obtain ⟨n, rfl, _, hw⟩ := DataW.trod_int hu h
      refine ⟨rfl, fun i k v hk hv => ?_⟩
      cases i with
      | zero => simp at hk hv; subst hk hv; exact ⟨n, rfl, hw⟩
      | succ i => simp at hk
    · rename_i fs hu
      obtain ⟨xs, n, _, _, hcl, hxl, hg⟩ := DataW.trod_struct hu h
      have := flatFs_all (cs := cs) fs.toList 0 l (fun f hf a ha => by
        obtain ⟨i, hi, rfl⟩ := List.getElem_of_mem hf
        have h1 := hg i _ (by rw [← Array.getElem?_toList]; exact List.getElem?_eq_getElem hi)
        rw [flatK_len ha] at h1
        have hix : i < xs.length := by rw [hxl]; simpa using hi
        rw [List.getElem?_eq_getElem hix] at h1
        exact ih _ a _ _ _ ha h1) hl
      rw [List.drop_zero, List.take_of_length_le (by omega)] at this
      exact this
    · rename_i n e hu
      obtain ⟨a, ha, rfl⟩ := Option.map_eq_some_iff.1 hl
      obtain ⟨xs, m', _, _, hcl, hxl, hg⟩ := DataW.trod_array hu h
      have hae := flatK_len ha
      have := flat_rep (l := a) (cs := cs) n 0 (fun i hi => by
        have h1 := hg i hi
        rw [hae] at h1
        have hix : i < xs.length := by omega
        rw [List.getElem?_eq_getElem hix] at h1
        rw [Nat.zero_add]
        exact ih _ a _ _ _ ha h1)
      have hn : n * a.length = (List.replicate n a).flatten.length := by simp
      rw [List.drop_zero, List.take_of_length_le (by omega)] at this
      exact this
    · cases hl
theorem list_of {α : Type} (p : Nat → α → Prop) : ∀ n : Nat, (∀ i, i < n → ∃ x, p i x) → ∃ l : List α, l.length = n ∧ ∀ i x, l[i]? = some x → p i x
  | 0, _ => ⟨[], rfl, fun i x h => by simp at h⟩
  | n + 1, h => by
    obtain ⟨l, hl, hp⟩ := list_of p n (fun i hi => h i (by omega))
    obtain ⟨x, hx⟩ := h n (by omega)
    refine ⟨l ++ [x], by simp [hl], fun i y hy => ?_⟩
    rw [List.getElem?_append] at hy
    split at hy
    · exact hp i y hy
    · rename_i hi
      rcases Nat.eq_or_lt_of_le (Nat.not_lt.1 hi) with h1 | h1
      · rw [← h1] at hy
        simp at hy
        subst hy
        rw [← h1, hl]
        exact hx
      · rw [List.getElem?_eq_none (by simp; omega)] at hy
        cases hy
theorem flat_inv {β : Type} (m : Nat) : ∀ (l : List (List β)), (∀ x ∈ l, x.length = m) → ∀ (j : Nat) (u : β), l.flatten[j]? = some u → ∃ (k r : Nat) (x : List β), j = k * m + r ∧ l[k]? = some x ∧ x[r]? = some u
  | [], _, j, u, h => by simp at h
  | y :: t, hl, j, u, h => by
    rw [List.flatten_cons, List.getElem?_append] at h
    have hy := hl y (by simp)
    split at h
    · exact ⟨0, j, y, by omega, rfl, h⟩
    · obtain ⟨k, r, x, h1, h2, h3⟩ := flat_inv m t (fun z hz => hl z (by simp [hz])) _ u h
      exact ⟨k + 1, r, x, by rw [Nat.succ_mul]; omega, by simpa using h2, h3⟩
/-- A slice of such that came in. -/
theorem open_flat {t e : TypeId} {m fuel : Nat} {ks : List (Option IntKind)} {A : Option Addr} {n c : Nat} {x : DataW H × List MemPlace} (ht : P.underlying t = some (.slice e)) (hf : flatK P m e = some ks) (h0 : 0 < ks.length)
    (h : DataW.trod enc P w base spare held fuel t (Value.slice A n c).cells.toList = some x) : ∃ rows : List (List Value), rows.length = n ∧ (∀ r ∈ rows, AllK ks r) ∧ Reads w w.heap.size ks.length A n rows.flatten ∧ n ≤ c ∧ n ≤ maxLen := by
  rcases open_slice ht h with ⟨hcs, _⟩ | ⟨a, len, cap, mm, nn, D, Pl, hcs, _, hl, hm, hmm, _, hel⟩
  · simp [Value.cells] at hcs
    obtain ⟨rfl, rfl, rfl⟩ := hcs
    exact ⟨[], rfl, by simp, Reads.none_, Nat.le_refl _, by simp⟩
  · simp [Value.cells] at hcs
    obtain ⟨rfl, rfl, rfl⟩ := hcs
    have hle : n ≤ mm := by rw [hmm]; split <;> omega
    have hk := flatK_len hf
    obtain ⟨rows, hr, hp⟩ := list_of (fun i r => AllK ks r ∧ ∀ j u, r[j]? = some u → w.cell? ((a.add (i * ks.length)).add j) = some u) n (fun i hi => by
      obtain ⟨cs', hc, ht'⟩ := hel i (by omega)
      have hA := trod_flat m e ks _ _ _ hf ht'
      obtain ⟨_, hcl, hat⟩ := World.cells?_some hc
      rw [hk] at hcl hat
      refine ⟨cs', hA, fun j u hu => ?_⟩
      have hj : j < cs'.length := (List.getElem?_eq_some_iff.1 hu).1
      rw [hat j (by omega), hu])
    have hrl : ∀ r ∈ rows, r.length = ks.length := fun r hr' => by
      obtain ⟨i, hi, rfl⟩ := List.getElem_of_mem hr'
      exact (hp i _ (List.getElem?_eq_getElem hi)).1.1
    refine ⟨rows, hr, fun r hr' => ?_, ⟨?_, fun hn => ⟨a, rfl, ?_, fun j u hu => ?_⟩⟩, hl, by omega⟩
    · obtain ⟨i, hi, rfl⟩ := List.getElem_of_mem hr'
      exact (hp i _ (List.getElem?_eq_getElem hi)).1
    · rw [← hr]
      clear hp hr
      induction rows with
      | nil => simp
      | cons y t ih => simp only [List.flatten_cons, List.length_append, List.length_cons]; rw [ih (fun r hr' => hrl r (by simp [hr'])), hrl y (by simp), Nat.succ_mul]; omega
    · have hi : 0 < rows.length := by omega
      have h1 := hp 0 _ (List.getElem?_eq_getElem hi)
      have h2 : 0 < rows[0].length := by rw [h1.1.1]; exact h0
      have h3 := h1.2 0 _ (List.getElem?_eq_getElem h2)
      have h4 := World.block_lt_of_cell? w _ h3
      rwa [block_of_add, block_of_add] at h4
    · obtain ⟨k, r, y, rfl, h2, h3⟩ := flat_inv ks.length rows hrl j u hu
      have := (hp k y h2).2 r u h3
      rwa [add_of_add] at this
end
end Go.Proofs.YtfjflefgclfbfaaGreat
end
section
namespace Go.Proofs.YtfjflefgclfbfaaGreat
open Go.RowKit
set_option linter.unusedVariables false
set_option linter.unusedSimpArgs false
def eqV : Value → Value → Bool
  | .int _ a, .int _ b => a == b
  | .bool a, .bool b => a == b
  | _, _ => false
def eqL : List Value → List Value → Bool
  | [], [] => true
  | x :: xs, y :: ys => eqV x y && eqL xs ys
  | _, _ => false
theorem eqL_append : ∀ (a b c d : List Value), a.length = c.length → eqL (a ++ b) (c ++ d) = (eqL a c && eqL b d)
  | [], b, [], d, _ => by simp [eqL]
  | [], b, y :: c, d, h => by simp at h
  | x :: a, b, [], d, h => by simp at h
  | x :: a, b, y :: c, d, h => by simp only [List.cons_append, eqL]; rw [eqL_append a b c d (by simpa using h), Bool.and_assoc]
theorem AllK.tail {k : Option IntKind} {ks : List (Option IntKind)} {x : Value} {xs : List Value} (h : AllK (k :: ks) (x :: xs)) : AllK ks xs :=
  ⟨by have := h.1; simpa using this, fun i k' v hk hv => h.2 (i + 1) k' v (by simpa using hk) (by simpa using hv)⟩
theorem eqL_iff : ∀ (ks : List (Option IntKind)) (xs ys : List Value), AllK ks xs → AllK ks ys → (eqL xs ys = true ↔ xs = ys)
  | [], xs, ys, hx, hy => by
    have h1 : xs = [] := List.eq_nil_of_length_eq_zero hx.1
    have h2 : ys = [] := List.eq_nil_of_length_eq_zero hy.1
    subst h1 h2
    simp [eqL]
  | k :: ks, [], ys, hx, hy => by have := hx.1; simp at this
  | k :: ks, x :: xs, [], hx, hy => by have := hy.1; simp at this
  | k :: ks, x :: xs, y :: ys, hx, hy => by
    have ih := eqL_iff ks xs ys hx.tail hy.tail
    have a1 := hx.2 0 k x rfl rfl
    have a2 := hy.2 0 k y rfl rfl
    simp only [eqL, Bool.and_eq_true, ih, List.cons.injEq]
    refine and_congr_left fun _ => ?_
    cases k with
    | none => obtain ⟨b, rfl⟩ := a1; obtain ⟨c, rfl⟩ := a2; simp [eqV]
    | some k => obtain ⟨n, rfl, _⟩ := a1; obtain ⟨m, rfl, _⟩ := a2; simp [eqV]
def eqOk (P : Program) : Nat → TypeId → Bool
  | 0, _ => false
  | m + 1, t => (P.info? t).isSome &&
    match P.underlying t with
    | some .bool => true
    | some (.int _) => true
    | some (.struct fs) => !P.stoodInHeld t && fs.toList.all fun f => f.name != "_" && eqOk P m f.type
    | some (.array _ e) => eqOk P m e
    | _ => false
def aggT (P : Program) (t : TypeId) : Bool := match P.underlying t with
  | some d => aggD d
  | none => false
def valT (P : Program) (t : TypeId) (cs : List Value) : Value := if aggT P t then .agg cs.toArray else cs.headD undef
section
variable {P : Program}
theorem part_flat {m : Nat} {t : TypeId} {ks : List (Option IntKind)} (hk : flatK P m t = some ks) (hi : (P.info? t).isSome = true) (xs : List Value) (off : Nat) (h : AllK ks ((xs.drop off).take ks.length)) (w : World) :
    (part t xs.toArray off).run P w = .ok (valT P t ((xs.drop off).take ks.length)) w := by
  have hlen := flatK_len hk
  obtain ⟨i0, hi0⟩ := Option.isSome_iff_exists.1 hi
  have hsz : i0.size = ks.length := by rw [← hlen]; simp [Program.cellsOf, hi0]
  cases m with
  | zero => simp [flatK] at hk
  | succ m =>
    unfold flatK at hk
    obtain ⟨l, hl, h2⟩ := Option.bind_eq_some_iff.1 hk
    have hlk : l = ks := by
      split at h2
      · injection h2
      · cases h2
    subst hlk
    have ext : ∀ n, (xs.toArray.extract off (off + n)) = ((xs.drop off).take n).toArray := fun n => by
      refine Array.ext_getElem? fun j => ?_
      rw [Array.getElem?_extract]
      simp only [List.size_toArray, List.getElem?_toArray, List.getElem?_take, List.getElem?_drop]
      by_cases hj : j < n
      · by_cases hj2 : off + j < xs.length
        · rw [if_pos (by omega), if_pos hj]
        · rw [if_neg (by omega), if_pos hj, List.getElem?_eq_none (by omega)]
      · rw [if_neg (by omega), if_neg hj]
    have one : ∀ k, l = [k] → ∃ v, (xs.drop off).take l.length = [v] ∧ xs.toArray[off]? = some v := fun k hk1 => by
      subst hk1
      have h3 := h.1
      match hq : (xs.drop off).take [k].length, h3 with
      | [v], _ =>
        refine ⟨v, rfl, ?_⟩
        have : ((xs.drop off).take 1)[0]? = some v := by rw [show (1 : Nat) = [k].length from rfl, hq]; rfl
        simpa using this
    split at hl
    · rename_i hu
      injection hl with hl
      obtain ⟨v, hv, hc⟩ := one none hl.symm
      simp [part, Sem.run_bind, isAgg, run_underlying hu, hc, hv, valT, aggT, hu, aggD]
    · rename_i k0 hu
      injection hl with hl
      obtain ⟨v, hv, hc⟩ := one (some k0) hl.symm
      simp [part, Sem.run_bind, isAgg, run_underlying hu, hc, hv, valT, aggT, hu, aggD]
    · rename_i fs hu
      simp [part, Sem.run_bind, isAgg, run_underlying hu, valT, aggT, hu, aggD, sizeOf, typeInfo, hi0, hsz, ext]
    · rename_i n e hu
      simp [part, Sem.run_bind, isAgg, run_underlying hu, valT, aggT, hu, aggD, sizeOf, typeInfo, hi0, hsz, ext]
    · cases hl
theorem loop_fields (body : Field → Option Bool × Unit → Sem (ForInStep (Option Bool × Unit))) (q : Field → Bool) (w : World) : ∀ l : List Field,
    (∀ f ∈ l, (body f (none, ())).run P w = .ok (if q f then .yield (none, ()) else .done (some false, ())) w) →
    (forIn l (none, ()) body).run P w = .ok (if l.all q then (none, ()) else (some false, ())) w
  | [], _ => by simp
  | f :: r, h => by
    rw [List.forIn_cons, Sem.run_bind, h f (by simp)]
    cases hq : q f with
    | true => simp [hq, loop_fields body q w r (fun g hg => h g (by simp [hg]))]
    | false => simp [hq]
theorem loop_nats (body : Nat → Option Bool × Unit → Sem (ForInStep (Option Bool × Unit))) (q : Nat → Bool) (w : World) : ∀ l : List Nat,
    (∀ f ∈ l, (body f (none, ())).run P w = .ok (if q f then .yield (none, ()) else .done (some false, ())) w) →
    (forIn l (none, ()) body).run P w = .ok (if l.all q then (none, ()) else (some false, ())) w
  | [], _ => by simp
  | f :: r, h => by
    rw [List.forIn_cons, Sem.run_bind, h f (by simp)]
    cases hq : q f with
    | true => simp [hq, loop_nats body q w r (fun g hg => h g (by simp [hg]))]
    | false => simp [hq]
theorem AllK.split {a b : List (Option IntKind)} {zs : List Value} (h : AllK (a ++ b) zs) : AllK a (zs.take a.length) ∧ AllK b (zs.drop a.length) := by
  have hl := h.1
  rw [List.length_append] at hl
  refine ⟨⟨by rw [List.length_take]; omega, fun i k v hk hv => ?_⟩, ⟨by rw [List.length_drop]; omega, fun i k v hk hv => ?_⟩⟩
  · have hi : i < a.length := (List.getElem?_eq_some_iff.1 hk).1
    rw [List.getElem?_take, if_pos hi] at hv
    exact h.2 i k v (by rw [List.getElem?_append_left hi]; exact hk) hv
  · rw [List.getElem?_drop] at hv
    exact h.2 (a.length + i) k v (by rw [List.getElem?_append_right (by omega), Nat.add_sub_cancel_left]; exact hk) hv
theorem flatFs_sub {g : TypeId → Option (List (Option IntKind))} {zs : List Value} : ∀ (fs : List Field) (off : Nat) (ks : List (Option IntKind)), flatFs g fs off = some ks → AllK ks ((zs.drop off).take ks.length) →
    ∀ f ∈ fs, ∀ a, g f.type = some a → AllK a ((zs.drop f.offset).take a.length)
  | [], off, ks, _, _ => by simp
  | f :: r, off, ks, h, hz => by
    unfold flatFs at h
    split at h
    · rename_i ho
      obtain ⟨a, ha, h2⟩ := Option.bind_eq_some_iff.1 h
      obtain ⟨b, hb, rfl⟩ := Option.map_eq_some_iff.1 h2
      obtain ⟨s1, s2⟩ := hz.split
      rw [List.length_append, List.take_take, Nat.min_eq_left (by omega)] at s1
      rw [List.length_append, List.drop_take, List.drop_drop, Nat.add_sub_cancel_left] at s2
      intro f' hf' a' ha'
      rcases List.mem_cons.1 hf' with rfl | hf'
      · rw [ha] at ha'; cases ha'; rw [ho]; exact s1
      · exact flatFs_sub r _ b hb s2 f' hf' a' ha'
    · cases h
theorem rep_sub {l : List (Option IntKind)} {zs : List Value} : ∀ (n off : Nat), AllK (List.replicate n l).flatten ((zs.drop off).take (n * l.length)) → ∀ i, i < n → AllK l ((zs.drop (off + i * l.length)).take l.length)
  | 0, _, _ => by intro i hi; omega
  | n + 1, off, h => by
    rw [List.replicate_succ, List.flatten_cons] at h
    obtain ⟨s1, s2⟩ := h.split
    rw [List.take_take, Nat.min_eq_left (by rw [Nat.succ_mul]; omega)] at s1
    rw [List.drop_take, List.drop_drop, show (n + 1) * l.length - l.length = n * l.length by rw [Nat.succ_mul]; omega] at s2
    intro i hi
    cases i with
    | zero => simpa using s1
    | succ i =>
      have := rep_sub n _ s2 i (by omega)
      rwa [show off + (i + 1) * l.length = off + l.length + i * l.length by rw [Nat.succ_mul]; omega]
theorem flatFs_eq {g : TypeId → Option (List (Option IntKind))} {xs ys : List Value} (hl : xs.length = ys.length) : ∀ (fs : List Field) (off : Nat) (ks : List (Option IntKind)), flatFs g fs off = some ks →
    eqL ((xs.drop off).take ks.length) ((ys.drop off).take ks.length) = fs.all fun f => eqL ((xs.drop f.offset).take ((g f.type).getD []).length) ((ys.drop f.offset).take ((g f.type).getD []).length)
  | [], off, ks, h => by
    simp [flatFs] at h
    subst h
    simp [eqL]
  | f :: r, off, ks, h => by
    unfold flatFs at h
    split at h
    · rename_i ho
      obtain ⟨a, ha, h2⟩ := Option.bind_eq_some_iff.1 h
      obtain ⟨b, hb, rfl⟩ := Option.map_eq_some_iff.1 h2
      rw [List.length_append, List.take_add, List.take_add, List.drop_drop, List.drop_drop, eqL_append _ _ _ _ (by simp [hl]), List.all_cons, ha, ho, flatFs_eq hl r _ b hb]
      rfl
    · cases h
theorem rep_eq {xs ys : List Value} (hl : xs.length = ys.length) (c : Nat) : ∀ (n off : Nat),
    eqL ((xs.drop off).take (n * c)) ((ys.drop off).take (n * c)) = (List.range' 0 n).all fun i => eqL ((xs.drop (off + i * c)).take c) ((ys.drop (off + i * c)).take c)
  | 0, off => by simp [eqL]
  | n + 1, off => by
    rw [show (n + 1) * c = n * c + c by rw [Nat.succ_mul], List.take_add, List.take_add, List.drop_drop, List.drop_drop, eqL_append _ _ _ _ (by simp [hl]), rep_eq hl c n off, List.range'_concat, List.all_append]
    simp
theorem eqOk_info {m : Nat} {t : TypeId} (h : eqOk P m t = true) : (P.info? t).isSome = true := by
  cases m with
  | zero => simp [eqOk] at h
  | succ m => unfold eqOk at h; simp only [Bool.and_eq_true] at h; exact h.1
theorem eq_flat (w : World) : ∀ (m : Nat) (t : TypeId) (ks : List (Option IntKind)) (xs ys : List Value) (d : Nat), m ≤ d → flatK P m t = some ks → eqOk P m t = true → AllK ks xs → AllK ks ys →
    (Op.equalIn d t (valT P t xs) (valT P t ys)).run P w = .ok (eqL xs ys) w := by
  intro m
  induction m with
  | zero => intro t ks xs ys d _ h; simp [flatK] at h
  | succ m ih =>
    intro t ks xs ys d hd hk he hx hy
    obtain ⟨d, rfl⟩ : ∃ d', d = d' + 1 := ⟨d - 1, by omega⟩
    have hd' : m ≤ d := by omega
    have hlen := flatK_len hk
    obtain ⟨i0, hi0⟩ := Option.isSome_iff_exists.1 (eqOk_info he)
    unfold flatK at hk
    obtain ⟨l, hl, h2⟩ := Option.bind_eq_some_iff.1 hk
    have hlk : l = ks := by
      split at h2
      · injection h2
      · cases h2
    subst hlk
    unfold eqOk at he
    simp only [Bool.and_eq_true] at he
    have he2 := he.2
    have hxy : xs.length = ys.length := by rw [hx.1, hy.1]
    split at hl
    · rename_i hu
      injection hl with hl
      subst hl
      match xs, hx.1, ys, hy.1 with
      | [x], _, [y], _ =>
        obtain ⟨b, rfl⟩ := hx.2 0 none x rfl rfl
        obtain ⟨c, rfl⟩ := hy.2 0 none y rfl rfl
        simp [Op.equalIn, run_underlying hu, valT, aggT, hu, aggD, eqL, eqV]
    · rename_i k0 hu
      injection hl with hl
      subst hl
      match xs, hx.1, ys, hy.1 with
      | [x], _, [y], _ =>
        obtain ⟨b, rfl, _⟩ := hx.2 0 (some k0) x rfl rfl
        obtain ⟨c, rfl, _⟩ := hy.2 0 (some k0) y rfl rfl
        simp [Op.equalIn, run_underlying hu, valT, aggT, hu, aggD, eqL, eqV]
    · rename_i fs hu
      rw [hu] at he2
      simp only [Bool.and_eq_true, Bool.not_eq_true'] at he2
      have hv : ∀ zs : List Value, valT P t zs = .agg zs.toArray := fun zs => by simp [valT, aggT, hu, aggD]
      have hall := List.all_eq_true.1 he2.2
      have hfl : ∀ f ∈ fs.toList, ∃ a, flatK P m f.type = some a := fun f hf => by
        clear hx hy hv ih hall he2 he hxy hi0 hlen hk h2
        generalize fs.toList = L at hl hf
        generalize 0 = off at hl
        revert off l
        induction L with
        | nil => simp at hf
        | cons g r ihr =>
          intro l off hl
          unfold flatFs at hl
          split at hl
          · obtain ⟨a, ha, h3⟩ := Option.bind_eq_some_iff.1 hl
            obtain ⟨b, hb, _⟩ := Option.map_eq_some_iff.1 h3
            rcases List.mem_cons.1 hf with rfl | hf
            · exact ⟨a, ha⟩
            · exact ihr hf b _ hb
          · cases hl
      have hsl : ∀ zs : List Value, AllK l zs → ∀ f ∈ fs.toList, ∀ a, flatK P m f.type = some a → AllK a ((zs.drop f.offset).take a.length) := fun zs hz f hf a ha => by
        exact flatFs_sub fs.toList 0 l hl (by rw [List.drop_zero, List.take_of_length_le (by rw [hz.1]; exact Nat.le_refl _)]; exact hz) f hf a ha
      rw [hv, hv]
      simp only [Op.equalIn, Sem.run_bind, run_underlying hu, Result.andThen_ok, run_program, he2.1]
      simp only [Bool.false_eq_true, if_false, Sem.run_bind, Sem.run_pure, Result.andThen_ok, ← Array.forIn_toList]
      rw [loop_fields _ (fun f => eqL ((xs.drop f.offset).take ((flatK P m f.type).getD []).length) ((ys.drop f.offset).take ((flatK P m f.type).getD []).length)) w fs.toList (fun f hf => by
        obtain ⟨a, ha⟩ := hfl f hf
        have h3 := hall f hf
        simp only [Bool.and_eq_true, bne_iff_ne, ne_eq] at h3
        have hi := eqOk_info h3.2
        have p1 := part_flat ha hi xs f.offset (hsl xs hx f hf a ha) w
        have p2 := part_flat ha hi ys f.offset (hsl ys hy f hf a ha) w
        have p3 := ih f.type a _ _ d hd' ha h3.2 (hsl xs hx f hf a ha) (hsl ys hy f hf a ha)
        rw [ha]
        simp only [h3.1, ne_eq, not_false_eq_true, if_true, if_false, Sem.run_bind, p1, p2, p3, Result.andThen_ok, Option.getD_some]
        rcases Bool.eq_false_or_eq_true (eqL (List.take a.length (List.drop f.offset xs)) (List.take a.length (List.drop f.offset ys))) with hb | hb <;> simp [hb])]
      have hq := flatFs_eq hxy fs.toList 0 l hl
      rw [List.drop_zero, List.drop_zero, List.take_of_length_le (by rw [hx.1]; exact Nat.le_refl _), List.take_of_length_le (by rw [hy.1]; exact Nat.le_refl _)] at hq
      rw [hq]
      generalize (fs.toList.all fun f => eqL (List.take ((flatK P m f.type).getD []).length (List.drop f.offset xs)) (List.take ((flatK P m f.type).getD []).length (List.drop f.offset ys))) = b
      cases b <;> simp
    · rename_i n e hu
      rw [hu] at he2
      have hv : ∀ zs : List Value, valT P t zs = .agg zs.toArray := fun zs => by simp [valT, aggT, hu, aggD]
      obtain ⟨a, ha, rfl⟩ := Option.map_eq_some_iff.1 hl
      have hi := eqOk_info he2
      obtain ⟨ie, hie⟩ := Option.isSome_iff_exists.1 hi
      have hsz : ie.size = a.length := by rw [← flatK_len ha]; simp [Program.cellsOf, hie]
      have hn : (List.replicate n a).flatten.length = n * a.length := by simp
      have hsl : ∀ zs : List Value, AllK (List.replicate n a).flatten zs → ∀ i, i < n → AllK a ((zs.drop (i * a.length)).take a.length) := fun zs hz i hi' => by
        have := rep_sub (l := a) (zs := zs) n 0 (by rw [List.drop_zero, List.take_of_length_le (by rw [hz.1, hn]; exact Nat.le_refl _)]; exact hz) i hi'
        rwa [Nat.zero_add] at this
      rw [hv, hv]
      simp only [Op.equalIn, Sem.run_bind, run_underlying hu, Result.andThen_ok, sizeOf, typeInfo, run_program, hie, Sem.run_pure, hsz]
      simp only [Std.Legacy.Range.forIn_eq_forIn_range']
      rw [loop_nats _ (fun i => eqL ((xs.drop (0 + i * a.length)).take a.length) ((ys.drop (0 + i * a.length)).take a.length)) w _ (fun i hi' => by
        have hin : i < n := by
          have := List.mem_range'_1.1 hi'
          simp [Std.Legacy.Range.size] at this
          omega
        have p1 := part_flat ha hi xs (i * a.length) (hsl xs hx i hin) w
        have p2 := part_flat ha hi ys (i * a.length) (hsl ys hy i hin) w
        have p3 := ih e a _ _ d hd' ha he2 (hsl xs hx i hin) (hsl ys hy i hin)
        rw [Nat.zero_add]
        simp only [Sem.run_bind, p1, p2, p3, Result.andThen_ok]
        rcases Bool.eq_false_or_eq_true (eqL (List.take a.length (List.drop (i * a.length) xs)) (List.take a.length (List.drop (i * a.length) ys))) with hb | hb <;> simp [hb])]
      have hq := rep_eq hxy a.length n 0
      rw [List.drop_zero, List.drop_zero, List.take_of_length_le (by rw [hx.1, hn]; exact Nat.le_refl _), List.take_of_length_le (by rw [hy.1, hn]; exact Nat.le_refl _)] at hq
      rw [hq, show [:n].size = n by simp [Std.Legacy.Range.size]]
      generalize ((List.range' 0 n).all fun i => eqL (List.take a.length (List.drop (0 + i * a.length) xs)) (List.take a.length (List.drop (0 + i * a.length) ys))) = b
      cases b <;> simp
    · cases hl
/-- '==' and '!=' of two. -/
theorem run_eql_flat {m : Nat} {t : TypeId} {ks : List (Option IntKind)} {xs ys : List Value} (hm : m ≤ 10000) (hk : flatK P m t = some ks) (he : eqOk P m t = true) (ha : aggT P t = true) (hx : AllK ks xs) (hy : AllK ks ys) (w : World) :
    (binOp .eql t (.agg xs.toArray) (.agg ys.toArray)).run P w = .ok (.bool (eqL xs ys)) w := by
  have h := eq_flat w m t ks xs ys 10000 hm hk he hx hy
  have hv : ∀ zs : List Value, valT P t zs = .agg zs.toArray := fun zs => by simp [valT, ha]
  rw [hv, hv] at h
  simp [binOp, Op.equal, Op.maxDepth, h]
end
end Go.Proofs.YtfjflefgclfbfaaGreat
end
section
namespace Go.Proofs.YtfjflefgclfbfaaGreat
open Go.RowKit
set_option linter.unusedVariables false
set_option linter.unusedSimpArgs false
/-- Cells laid over others from a number on. -/
def overC (cs : List Value) (k : Nat) (vs : List Value) : List Value := cs.take k ++ vs ++ cs.drop (k + vs.length)
theorem grown_setRow (w : World) (g : Nat) (cs : Array Value) : w.grownBy (w.setRow g cs) (some g) :=
  ⟨rfl, rfl, rfl, by simp, fun i _ hne => setRow_other w g i cs (fun e => hne (by rw [e]))⟩
section
variable {P : Program}
theorem run_storeVar_at (w : World) (g off : Nat) (tb ty : TypeId) (cs vs : List Value) (v : Value) (hB : Blk w g tb cs.toArray) (hv : v.cells = vs.toArray) (hi : (P.info? ty).map (·.size) = some vs.length)
    (hl : off + vs.length ≤ cs.length) (h1 : ∀ u ∈ vs, u.oneCell' = true) : (storeVar ty ⟨g, off, none⟩ v).run P w = .ok () (w.setRow g (overC cs off vs).toArray) := by
  have hst := run_storeCells_at (P := P) g off tb vs 0 cs.toArray w hB (by simpa using hl) h1
  cases hq : P.info? ty with
  | none => simp [hq] at hi
  | some i =>
    have hs : i.size = vs.length := by simpa [hq] using hi
    simp [storeVar, Sem.run_bind, sizeOf, typeInfo, hq, hs, hv, hst, overC]
/-- A store of several cells into a block. -/
theorem wpList_store_at {ops : Array Oper} {rest : List Oper} {o : Oper} {a : Act} {w : World} {Q : Exit → Act → World → Prop} (hgd : o.guard = none) (ty : TypeId) (x y : Operand) (ho : o.op = .store ty x y)
    (g off : Nat) (tb : TypeId) (cs vs : List Value) (v : Value) (hB : Blk w g tb cs.toArray) (hx : a.eval x = .pointer (some ⟨g, off, none⟩)) (hy : a.eval y = v) (hv : v.cells = vs.toArray) (hi : (P.info? ty).map (·.size) = some vs.length)
    (hl : off + vs.length ≤ cs.length) (h1 : ∀ u ∈ vs, u.oneCell' = true)
    (h : ∀ w', Blk w' g tb (overC cs off vs).toArray → w.grownBy w' (some g) → w'.heap.size = w.heap.size → wpList P ops Q rest (a.put o.dst undef) w') : wpList P ops Q (o :: rest) a w :=
  wpList_plain hgd fun _ hK => by
    unfold Oper.wp execOp
    simp only [ho, hx, hy, Instr.storeAt, Instr.sureAddr, Sem.run_bind, Sem.run_pure, Result.andThen_ok, run_storeVar_at w g off tb ty cs vs v hB hv hi hl h1]
    exact hK _ _ (h _ (setRow_heap w g _ _ tb (0, 0) hB) (grown_setRow w g _) (by simp))
end
end Go.Proofs.YtfjflefgclfbfaaGreat
end
section
namespace Go.Proofs.YtfjflefgclfbfaaGreat
open Go.RowKit
set_option linter.unusedVariables false
set_option linter.unusedSimpArgs false
section
variable {P : Program}
/-- .. all of a variable just made, the world under a name. -/
theorem wpList_store_new {ops : Array Oper} {rest : List Oper} {o : Oper} {a : Act} {w : World} {Q : Exit → Act → World → Prop} (hgd : o.guard = none) (ty : TypeId) (x y : Operand) (ho : o.op = .store ty x y)
    (cs : Array Value) (vs : List Value) (v : Value) (hx : a.eval x = .pointer (some ⟨w.heap.size, 0, none⟩)) (hy : a.eval y = v) (hv : v.cells = vs.toArray) (hi : (P.info? ty).map (·.size) = some vs.length)
    (hl : cs.size = vs.length) (h1 : ∀ u ∈ vs, u.oneCell' = true)
    (h : ∀ w', Blk w' w.heap.size ty vs.toArray → Below w.heap.size w w' → w'.heap.size = w.heap.size + 1 → wpList P ops Q rest (a.put o.dst undef) w') : wpList P ops Q (o :: rest) a (w.alloc (.cells cs ty)) := by
  refine wpList_store_at hgd ty x y ho w.heap.size 0 ty cs.toList vs v (by simpa using Blk.new w ty cs) hx hy hv hi (by simp [hl]) h1 fun w' hB hg hs => ?_
  have he : overC cs.toList 0 vs = vs := by
    unfold overC
    rw [List.take_zero, List.nil_append, Nat.zero_add, List.drop_of_length_le (by simp [hl]), List.append_nil]
  rw [he] at hB
  exact h w' hB (((Below.refl _ _).alloc (Nat.le_refl _) _).grown hg (le_alloc _ (Nat.le_refl _)) (fun g e => by injection e with e; omega)) (by simpa using hs)
end
end Go.Proofs.YtfjflefgclfbfaaGreat
end
section
namespace Go.Proofs.YtfjflefgclfbfaaGreat
open Go.RowKit
set_option linter.unusedVariables false
set_option linter.unusedSimpArgs false
open Go.Maps (Keyed)

/-- Block b is a map of at most n entries, whose keys are 'enc x' of plain x that may be (V), and that holds 'f x' at each. -/
def MapIs {κ : Type} (P : Program) (k : TypeId) (enc : κ → Value) (V : κ → Prop) (w : World) (b n : Nat) (f : κ → Option Value) : Prop :=
  ∃ es clock, w.heap[b]? = some (.map es clock) ∧ es.size ≤ n ∧ (es.toList.map (·.key)).Nodup ∧ (∀ e ∈ es.toList, ∃ x, V x ∧ e.key = enc x ∧ f x = some e.val) ∧ ∀ x u, f x = some u → V x ∧ ∃ e ∈ es.toList, e.key = enc x

/-- What a key's type is good for. -/
structure KeyEnc {κ : Type} (P : Program) (k : TypeId) (enc : κ → Value) (V : κ → Prop) : Prop where
  keyed : Keyed P k
  reads : ∀ x, V x → ∃ l, keyOf P k (enc x) = some l
  inj : ∀ x y, V x → V y → enc x = enc y → x = y

section
variable {κ : Type} {P : Program} {k : TypeId} {enc : κ → Value} {V : κ → Prop} {w w' : World} {b n : Nat} {f g : κ → Option Value}
theorem MapIs.new (w : World) : MapIs P k enc V (w.alloc (.map #[] 0)) w.heap.size 0 (fun _ => none) :=
  ⟨#[], 0, (MapKept.heap_alloc w _).1, by simp, by simp, by simp, by simp⟩
theorem MapIs.lt (h : MapIs P k enc V w b n f) : b < w.heap.size := by
  obtain ⟨es, c, hb, _⟩ := h
  exact (Array.getElem?_eq_some_iff.1 hb).1
theorem MapIs.mono {n' : Nat} (h : MapIs P k enc V w b n f) (hn : n ≤ n') : MapIs P k enc V w b n' f := by
  obtain ⟨es, c, h1, h2, h3, h4, h5⟩ := h
  exact ⟨es, c, h1, Nat.le_trans h2 hn, h3, h4, h5⟩
theorem MapIs.congr (h : MapIs P k enc V w b n f) (hg : ∀ x, g x = f x) : MapIs P k enc V w b n g := by
  obtain rfl : g = f := funext hg
  exact h
theorem MapIs.block_ (h : MapIs P k enc V w b n f) (hb : w'.heap[b]? = w.heap[b]?) : MapIs P k enc V w' b n f := by
  obtain ⟨es, c, h1, h2⟩ := h
  exact ⟨es, c, hb.trans h1, h2⟩
theorem MapIs.drew (h : MapIs P k enc V w b n f) : MapIs P k enc V w.drew b n f := h
theorem MapIs.drewN (h : MapIs P k enc V w b n f) (m : Nat) : MapIs P k enc V (w.drewN m) b n f := h
theorem MapIs.alloc (h : MapIs P k enc V w b n f) (o : Obj) : MapIs P k enc V (w.alloc o) b n f := h.block_ (Below.heap_alloc w o b h.lt)
theorem MapIs.far (h : MapIs P k enc V w b n f) {p : Addr} (hp : b ≠ p.block) (u : Value) : MapIs P k enc V (w.setCell p u) b n f := h.block_ (Below.heap_setCell w p u b hp)
theorem MapIs.below {B : Nat} (h : MapIs P k enc V w b n f) (hb : Below B w w') (hg : b < B) : MapIs P k enc V w' b n f := h.block_ (hb.block b hg)
theorem MapIs.grown {row : Option Nat} (h : MapIs P k enc V w b n f) (hb : w.grownBy w' row) (hg : some b ≠ row) : MapIs P k enc V w' b n f := h.block_ (hb.block b h.lt hg)

theorem MapIs.keys (E : KeyEnc P k enc V) {es : Array MapEntry} (h : ∀ e ∈ es.toList, ∃ x, V x ∧ e.key = enc x ∧ f x = some e.val) : ∀ e ∈ es.toList, ∃ l, keyOf P k e.key = some l := by
  intro e he
  obtain ⟨x, hv, hk, _⟩ := h e he
  rw [hk]
  exact E.reads x hv

theorem MapIs.look {t e : TypeId} (h : MapIs P k enc V w b n f) (E : KeyEnc P k enc V) (ht : P.underlying t = some (.map k e)) {z : Value} (hz : (zeroValue e).run P w = .ok z w) (x : κ) (hx : V x) (c : Bool) :
    (Instr.lookup t (.map (some b)) (enc x) c).run P w = .ok (if c then .tuple #[(f x).getD z, .bool (f x).isSome] else (f x).getD z) w := by
  obtain ⟨es, clock, hb, hs, hd, hv, hf⟩ := h
  obtain ⟨l, hl⟩ := E.reads x hx
  rcases E.keyed.find w hl es.toList (MapIs.keys E hv) with ⟨h1, h2⟩ | ⟨j, e0, h1, h2, h3⟩
  · have hn : f x = none := by
      cases hq : f x with
      | none => rfl
      | some u =>
        obtain ⟨_, e1, he1, hk1⟩ := hf x u hq
        exact absurd hk1 (h2 e1 he1)
    rw [hn]
    simp [Instr.lookup, run_underlying ht, MapKept.run_getObj_map hb, E.keyed.check w _ hl, h1, hz, Result.andThen]
  · have hm0 : e0 ∈ es.toList := List.mem_of_getElem? h2
    obtain ⟨y, hy, hk, hfy⟩ := hv e0 hm0
    have hxy : x = y := E.inj x y hx hy (h3 ▸ hk)
    subst hxy
    rw [hfy]
    simp [Instr.lookup, run_underlying ht, MapKept.run_getObj_map hb, E.keyed.check w _ hl, h1, Result.andThen]

variable [DecidableEq κ]
def putF (f : κ → Option Value) (x : κ) (v : Value) : κ → Option Value := fun y => if y = x then some v else f y

theorem MapIs.update {t e : TypeId} (h : MapIs P k enc V w b n f) (E : KeyEnc P k enc V) (ht : P.underlying t = some (.map k e)) (hn : n < maxLen) (x : κ) (hx : V x) (v : Value) :
    ∃ w', (Instr.mapUpdate t (.map (some b)) (enc x) v).run P w = .ok () w' ∧ MapIs P k enc V w' b (n + 1) (putF f x v) ∧ w.grownBy w' (some b) := by
  obtain ⟨es, clock, hb, hs, hd, hv, hf⟩ := h
  obtain ⟨l, hl⟩ := E.reads x hx
  have hgr : ∀ o, w.grownBy (ChangeMaps.setBlock w b o) (some b) := fun o => ⟨rfl, rfl, rfl, by simp [ChangeMaps.setBlock], fun i _ hi => ChangeMaps.heap_setBlock_other hb _ (fun e => hi (by rw [e]))⟩
  rcases E.keyed.find w hl es.toList (MapIs.keys E hv) with ⟨h1, h2⟩ | ⟨j, e0, h1, h2, h3⟩
  · refine ⟨_, by simp [Instr.mapUpdate, run_underlying ht, MapKept.run_getObj_map hb, E.keyed.check w false hl, h1, MapKept.run_setObj_map _ hb, Result.andThen]; rfl, ⟨es.push ⟨enc x, v, clock⟩, clock + 1, ChangeMaps.heap_setBlock_same hb _, by simp; omega, ?_, ?_, ?_⟩, hgr _⟩
    · simp only [Array.toList_push, List.map_append, List.map_cons, List.map_nil]
      refine List.nodup_append.2 ⟨hd, by simp, ?_⟩
      intro a ha c hc
      simp at hc
      subst hc
      obtain ⟨e1, he1, rfl⟩ := List.mem_map.1 ha
      exact h2 e1 he1
    · intro e1 he1
      simp only [Array.toList_push, List.mem_append, List.mem_singleton] at he1
      rcases he1 with he1 | rfl
      · obtain ⟨y, hy, hk, hfy⟩ := hv e1 he1
        refine ⟨y, hy, hk, ?_⟩
        unfold putF
        rw [if_neg (fun e => h2 e1 he1 (by rw [hk, e])), hfy]
      · exact ⟨x, hx, rfl, by simp [putF]⟩
    · intro y u hy
      unfold putF at hy
      simp only [Array.toList_push, List.mem_append, List.mem_singleton]
      by_cases hyx : y = x
      · exact ⟨hyx ▸ hx, _, .inr rfl, by rw [hyx]⟩
      · rw [if_neg hyx] at hy
        obtain ⟨hy0, e1, he1, hk1⟩ := hf y u hy
        exact ⟨hy0, e1, .inl he1, hk1⟩
  · have hj : es[j]? = some e0 := by simpa using h2
    have hjl : j < es.toList.length := (List.getElem?_eq_some_iff.1 h2).1
    have hm0 : e0 ∈ es.toList := List.mem_of_getElem? h2
    obtain ⟨y0, hy0, hk0, hfy0⟩ := hv e0 hm0
    have hxy : x = y0 := E.inj x y0 hx hy0 (h3 ▸ hk0)
    subst hxy
    have hlist : (es.modify j (fun e' => { e' with key := enc x, val := v })).toList = es.toList.set j { e0 with key := enc x, val := v } := by
      rw [Array.toList_modify]
      refine List.ext_getElem? fun i => ?_
      rw [List.getElem?_modify, List.getElem?_set]
      by_cases hij : j = i
      · subst hij
        simp [hj]
        simpa using hjl
      · simp [hij]
    have hkeys : (es.toList.set j { e0 with key := enc x, val := v }).map (·.key) = es.toList.map (·.key) := by
      rw [List.map_set]
      refine List.ext_getElem? fun i => ?_
      rw [List.getElem?_set]
      by_cases hij : j = i
      · subst hij
        simp [hj, h3]
        simpa using hjl
      · simp [hij]
    refine ⟨_, by simp [Instr.mapUpdate, run_underlying ht, MapKept.run_getObj_map hb, E.keyed.check w false hl, h1, hj, h3, E.keyed.stays w hl, MapKept.run_setObj_map _ hb, Result.andThen]; rfl, ⟨es.modify j (fun e' => { e' with key := enc x, val := v }), clock, ChangeMaps.heap_setBlock_same hb _, by simp; omega, ?_, ?_, ?_⟩, hgr _⟩
    · rw [hlist, hkeys]; exact hd
    · rw [hlist]
      intro e1 he1
      obtain ⟨i, hi, ex⟩ := List.getElem_of_mem he1
      rw [List.getElem_set] at ex
      split at ex
      · subst ex
        exact ⟨x, hx, rfl, by simp [putF]⟩
      · rename_i hne
        have hi' : i < es.toList.length := by simpa using hi
        have hm1 : e1 ∈ es.toList := ex ▸ List.getElem_mem hi'
        obtain ⟨y, hy, hk, hfy⟩ := hv e1 hm1
        refine ⟨y, hy, hk, ?_⟩
        unfold putF
        rw [if_neg ?_, hfy]
        rintro rfl
        refine hne ?_
        have hp := List.pairwise_iff_getElem.1 hd
        have hk1 : e1.key = e0.key := hk.trans hk0.symm
        have q0 : es.toList[j] = e0 := by have := List.getElem?_eq_getElem hjl; rw [h2] at this; exact (Option.some.inj this).symm
        rcases Nat.lt_trichotomy i j with hlt | heq | hgt
        · refine absurd ?_ (hp i j (by simpa using hi') (by simpa using hjl) hlt)
          simp only [List.getElem_map, ex, q0, hk1]
        · exact heq.symm
        · refine absurd ?_ (hp j i (by simpa using hjl) (by simpa using hi') hgt)
          simp only [List.getElem_map, ex, q0, hk1]
    · rw [hlist]
      intro y u hy
      unfold putF at hy
      by_cases hyx : y = x
      · subst hyx
        exact ⟨hx, { e0 with key := enc y, val := v }, List.mem_iff_getElem.2 ⟨j, by simpa using hjl, by simp⟩, rfl⟩
      · rw [if_neg hyx] at hy
        obtain ⟨hvy, e1, he1, hk1⟩ := hf y u hy
        obtain ⟨i, hi, ex⟩ := List.getElem_of_mem he1
        have hij : j ≠ i := by
          rintro rfl
          have h5 : e1 = e0 := by
            have := List.getElem?_eq_getElem hi
            rw [h2, ex] at this
            exact (Option.some.inj this).symm
          subst h5
          exact hyx (E.inj y x hvy hx (by rw [← hk1, h3]))
        exact ⟨hvy, e1, List.mem_iff_getElem.2 ⟨i, by simpa using hi, by rw [List.getElem_set, if_neg hij, ex]⟩, hk1⟩

omit [DecidableEq κ] in
/-- The read at the operation. -/
theorem wpList_look {ops : Array Oper} {rest : List Oper} {o : Oper} {a : Act} {Q : Exit → Act → World → Prop} (hg : o.guard = none) (m y : Operand) (t : TypeId) (c : Bool) (hop : o.op = Op.lookup t m y c)
    (e : TypeId) (E : KeyEnc P k enc V) (ht : P.underlying t = some (.map k e)) (z : Value) (hz : (zeroValue e).run P w = .ok z w) (h : MapIs P k enc V w b n f) (x : κ) (hx : V x) (hm : a.eval m = .map (some b)) (hy : a.eval y = enc x)
    (hK : wpList P ops Q rest (a.put o.dst (if c then .tuple #[(f x).getD z, .bool (f x).isSome] else (f x).getD z)) w) : wpList P ops Q (o :: rest) a w := by
  refine wpList_plain hg fun K' hK' => ?_
  unfold Oper.wp
  simp [execOp, hop, hm, hy, h.look E ht hz x hx c, Result.andThen]
  exact hK' _ _ hK
/-- The write at the operation. -/
theorem wpList_put {ops : Array Oper} {rest : List Oper} {o : Oper} {a : Act} {Q : Exit → Act → World → Prop} (hg : o.guard = none) (m y v : Operand) (t : TypeId) (hop : o.op = Op.mapUpdate t m y v)
    (e : TypeId) (E : KeyEnc P k enc V) (ht : P.underlying t = some (.map k e)) (h : MapIs P k enc V w b n f) (hn : n < maxLen) (x : κ) (hx : V x) (val : Value) (hm : a.eval m = .map (some b)) (hy : a.eval y = enc x) (hv : a.eval v = val)
    (hK : ∀ w', MapIs P k enc V w' b (n + 1) (putF f x val) → w.grownBy w' (some b) → wpList P ops Q rest (a.put o.dst undef) w') : wpList P ops Q (o :: rest) a w := by
  refine wpList_plain hg fun K' hK' => ?_
  obtain ⟨w', hrun, r1, r2⟩ := h.update E ht hn x hx val
  unfold Oper.wp
  simp [execOp, hop, hm, hy, hv, hrun, Result.andThen]
  exact hK' _ _ (hK w' r1 r2)
omit [DecidableEq κ] in
/-- A map made, the new world under a name. -/
theorem wpList_makeMap {ops : Array Oper} {rest : List Oper} {o : Oper} {a : Act} {Q : Exit → Act → World → Prop} (enc : κ → Value) (V : κ → Prop) (k : TypeId) (hg : o.guard = none) (t : TypeId) (hop : o.op = Op.makeMap t none)
    (hK : ∀ w' b, w.heap.size ≤ b → MapIs P k enc V w' b 0 (fun _ => none) → Below w.heap.size w w' → wpList P ops Q rest (a.put o.dst (.map (some b))) w') : wpList P ops Q (o :: rest) a w := by
  refine wpList_plain hg fun K' hK' => ?_
  unfold Oper.wp
  have hrun : (Instr.makeMap t none).run P w = .ok (.map (some w.heap.size)) (w.alloc (.map #[] 0)) := rfl
  simp [execOp, hop, hrun, Result.andThen]
  exact hK' _ _ (hK _ _ (Nat.le_refl _) (MapIs.new w) ((Below.refl _ _).alloc (Nat.le_refl _) _))
end
end Go.Proofs.YtfjflefgclfbfaaGreat
end
section
namespace Go.Proofs.YtfjflefgclfbfaaGreat
open Go.RowKit
set_option linter.unusedVariables false
set_option linter.unusedSimpArgs false
theorem mapM_some {α β : Type} (g : α → Option β) : ∀ l : List α, (∀ x ∈ l, ∃ y, g x = some y) → ∃ ys, l.mapM g = some ys
  | [], _ => ⟨[], rfl⟩
  | x :: r, h => by
    obtain ⟨y, hy⟩ := h x (by simp)
    obtain ⟨ys, hys⟩ := mapM_some g r (fun z hz => h z (by simp [hz]))
    exact ⟨y :: ys, by simp [List.mapM_cons, hy, hys]⟩
/-- One cell that is an integer. -/
theorem keyLits_one {P : Program} {m : Nat} {e : TypeId} {q : IntKind} {n : Int} {cs : List Value} {i : Nat} (he : P.underlying e = some (.int q)) (hi : cs[i]? = some (.int q n)) (hw : (Lit.int q n).wf = true) :
    ∃ l, P.keyLits (m + 1) e ((cs.drop i).take 1) = some l := by
  have h1 : (cs.drop i).take 1 = [.int q n] := by
    have hl : i < cs.length := (List.getElem?_eq_some_iff.1 hi).1
    rw [List.drop_eq_getElem_cons hl]
    rw [List.getElem?_eq_getElem hl] at hi
    simp [Option.some.inj hi]
  rw [h1]
  exact ⟨[.int q n], by simp [Program.keyLits, he, hw]⟩
theorem keyOf_struct {P : Program} {k : TypeId} {fs : Array Field} {cs : List Value} (hu : P.underlying k = some (.struct fs)) (hk : P.keyType k = true) (hc : P.cellsOf k = cs.length) (hn : fs.all (·.name != "_") = true)
    (hs : Nat.ble 1 P.types.size = true) (hf : ∀ f ∈ fs.toList, ∃ q n, P.underlying f.type = some (.int q) ∧ P.cellsOf f.type = 1 ∧ cs[f.offset]? = some (.int q n) ∧ (Lit.int q n).wf = true) : ∃ l, keyOf P k (.agg cs.toArray) = some l := by
  obtain ⟨m, hm⟩ : ∃ m, P.types.size = m + 1 := ⟨P.types.size - 1, by have := Nat.le_of_ble_eq_true hs; omega⟩
  obtain ⟨ys, hys⟩ := mapM_some (fun f : Field => P.keyLits (m + 1) f.type ((cs.drop f.offset).take (P.cellsOf f.type))) fs.toList (fun f hfm => by
    obtain ⟨q, n, h1, h2, h3, h4⟩ := hf f hfm
    rw [h2]
    exact keyLits_one h1 h3 h4)
  have hl : P.keyLits (P.types.size + 1) k cs = some ys.flatten := by
    rw [hm]
    unfold Program.keyLits
    simp only [hu, hc, hn, and_self, if_true, hys, Option.map_some]
  have hform : (Value.agg cs.toArray).formed P k = true := by simp [Value.formed, hu, hc]
  refine ⟨.string (keyBytes ys.flatten), ?_⟩
  unfold keyOf
  rw [hu]
  simp only [hk, hform, Bool.and_self, if_true, Value.cells, hl, Option.map_some]
end Go.Proofs.YtfjflefgclfbfaaGreat
end
section
namespace Go.Proofs.YtfjflefgclfbfaaGreat
open Go.RowKit
set_option linter.unusedVariables false
set_option linter.unusedSimpArgs false
theorem fold_fill : ∀ (l : List Value) (k : Nat) (a : Array Value), k + l.length ≤ a.size → (l.zipIdx k).foldl (fun cs (p : Value × Nat) => cs.setIfInBounds p.2 p.1) a = (a.toList.take k ++ l ++ a.toList.drop (k + l.length)).toArray
  | [], k, a, h => by simp
  | x :: r, k, a, h => by
    have hk : k < a.size := by simp at h; omega
    rw [List.zipIdx_cons, List.foldl_cons, fold_fill r (k + 1) (a.setIfInBounds k x) (by simp at h ⊢; omega)]
    apply congrArg List.toArray
    apply List.ext_getElem?
    intro i
    simp only [Array.toList_setIfInBounds, List.getElem?_append, List.length_take, List.length_set, Array.length_toList, List.length_append, List.length_cons, List.getElem?_take, List.getElem?_set, List.getElem?_drop, List.getElem?_cons]
    rw [show min (k + 1) a.size = k + 1 by omega, show min k a.size = k by omega]
    by_cases h1 : i < k
    · simp [h1, show i < k + 1 by omega, show k ≠ i by omega, show i < k + 1 + r.length by omega, show i < k + (r.length + 1) by omega]
    · by_cases h2 : i = k
      · subst h2
        simp [hk, show i < i + 1 + r.length by omega]
      · by_cases h3 : i < k + (r.length + 1)
        · simp [h1, h3, show ¬ i < k + 1 by omega, show i < k + 1 + r.length by omega, show i - k ≠ 0 by omega, show i - k - 1 = i - (k + 1) by omega]
        · simp [h1, h3, show ¬ i < k + 1 by omega, show ¬ i < k + 1 + r.length by omega, show k ≠ k + 1 + r.length + (i - (k + 1 + r.length)) by omega]
          congr 1; omega
theorem fold_fill_all (c a : Array Value) (h : a.size = c.size) : (c.zipIdx.foldl (fun cs (p : Value × Nat) => cs.setIfInBounds (0 + p.2) p.1) a) = c := by
  rw [← Array.foldl_toList, Array.toList_zipIdx]
  have := fold_fill c.toList 0 a (by simp; omega)
  simp only [Nat.zero_add] at this ⊢
  rw [this, List.drop_of_length_le (by simp; omega)]
  simp
section
variable {P : Program}
theorem run_buildSlice_one (w : World) (t e : TypeId) (i0 : TypeInfo) (z v : Value) (ht : P.underlying t = some (.slice e)) (hi : P.info? e = some i0) (hz : i0.zero = some z) (hs : i0.size ≤ 1024) (h0 : 0 < i0.size) (hv : v.cells.size = i0.size) :
    (Instr.buildSlice t 1 #[(0, v)]).run P w = .ok (.slice (some ⟨w.heap.size, 0, none⟩) 1 1) (w.alloc (.cells v.cells e)) := by
  have hfill : Instr.fill (fun i => some (i * i0.size, i0.size)) ((Array.range (1 * i0.size)).map (z.cells[· % z.cells.size]!)) [(0, v)] = some v.cells := by
    unfold Instr.fill
    have hsz : ((Array.range (1 * i0.size)).map (z.cells[· % z.cells.size]!)).size = v.cells.size := by simp [hv]
    simp only [hv, ne_eq, not_true_eq_false, decide_false, Bool.false_or, Nat.zero_mul]
    rw [if_neg (by simp)]
    unfold Instr.fill
    rw [fold_fill_all v.cells _ hsz]
  have h24 : ¬ (1 * i0.size > 2 ^ 24) := by omega
  have hne : ¬ (1 * i0.size = 0) := by omega
  simp only [Instr.buildSlice, Sem.run_bind, run_underlying ht, Result.andThen_ok, sizeOf, typeInfo]
  simp only [run_program, Sem.run_bind, Result.andThen_ok, hi, Sem.run_pure, if_neg h24, if_neg hne, zeroValue, typeInfo, hz, hfill, newRow, newObj]
  rfl
end
end Go.Proofs.YtfjflefgclfbfaaGreat
end
section
namespace Go.Proofs.YtfjflefgclfbfaaGreat
open Go.RowKit
set_option linter.unusedVariables false
set_option linter.unusedSimpArgs false
section
variable {P : Program}
theorem wpQuiet_load {ops : Array Oper} {rest : List Oper} {o : Oper} {a : Act} {W : World} {Q : Act → Prop} (hgd : o.guard = none) (ty : TypeId) (x : Operand) (ho : o.op = .load ty x)
    (ad : Addr) (hx : a.eval x = .pointer (some ad)) (cs : List Value) (d : TypeDesc) (hc : ∀ j u, cs[j]? = some u → W.cell? (ad.add j) = some u)
    (hu : P.underlying ty = some d) (hd : aggD d = true) (hi : (P.info? ty).map (·.size) = some cs.length)
    (h : wpQuiet P ops (fun w' => ∃ n, w' = W.drewN n) Q rest (a.put o.dst (.agg cs.toArray))) : wpQuiet P ops (fun w' => ∃ n, w' = W.drewN n) Q (o :: rest) a := by
  have hw : Region.wanted o (yielded ops a.tmps) = true := by simp [Region.wanted, hgd]
  unfold wpQuiet
  rw [if_pos hw]
  refine ⟨.agg cs.toArray, ?_, h⟩
  rintro w ⟨n, rfl⟩
  unfold Oper.quietAt execOp
  simp only [ho, hx, Instr.loadAt, Instr.sureAddr, Sem.run_bind, Sem.run_pure, Result.andThen_ok, run_loadVar_at (P := P) (W.drewN n) ad ty cs d hc hu hd hi]
  exact ⟨rfl, rfl⟩
end
end Go.Proofs.YtfjflefgclfbfaaGreat
end
section
namespace Go.Proofs.YtfjflefgclfbfaaGreat
open Go.RowKit
set_option linter.unusedVariables false
set_option linter.unusedSimpArgs false
section
variable {P : Program}
end
end Go.Proofs.YtfjflefgclfbfaaGreat
end
section
namespace Go.Proofs.YtfjflefgclfbfaaGreat
open Go.RowKit
set_option linter.unusedVariables false
set_option linter.unusedSimpArgs false
def RowL (w : World) (base : Nat) (e : TypeId) (size : Nat) (v : Value) (n : Nat) (xs : List Value) : Prop :=
  xs.length = n * size ∧ ((v = .slice none 0 0 ∧ n = 0) ∨ ∃ g cap cur, v = .slice (some ⟨g, 0, none⟩) n cap ∧ base ≤ g ∧ w.heap[g]? = some (.cells cur e (0, 0)) ∧ n ≤ cap ∧ cur.toList.take (n * size) = xs ∧ n * size ≤ cur.size)
section
variable {w w' : World} {base : Nat} {e : TypeId} {size : Nat} {v : Value} {n : Nat} {xs : List Value}
theorem RowL.of_own (h : w.ownsRow base e size v n xs) : RowL w base e size v n xs := by
  refine ⟨h.1, ?_⟩
  rcases h.2 with h | ⟨g, cap, cur, h1, h2, h3, h4, _, h6, h7⟩
  · exact .inl h
  · exact .inr ⟨g, cap, cur, h1, h2, h3, h4, h7, by rw [h6]; exact Nat.mul_le_mul_right _ h4⟩
theorem RowL.mono {b : Nat} (h : RowL w base e size v n xs) (hb : b ≤ base) : RowL w b e size v n xs := by
  refine ⟨h.1, ?_⟩
  rcases h.2 with h | ⟨g, cap, cur, h1, h2, h3⟩
  · exact .inl h
  · exact .inr ⟨g, cap, cur, h1, Nat.le_trans hb h2, h3⟩
theorem RowL.ge (h : RowL w base e size v n xs) : ∀ g, v.ownBlock = some g → base ≤ g ∧ g < w.heap.size := by
  intro g hg
  rcases h.2 with ⟨h, _⟩ | ⟨g', cap, cur, h1, h2, h3, _⟩
  · rw [h] at hg; simp [Value.ownBlock] at hg
  · rw [h1] at hg
    simp [Value.ownBlock] at hg
    subst hg
    exact ⟨h2, (Array.getElem?_eq_some_iff.1 h3).1⟩
theorem RowL.block_ (h : RowL w base e size v n xs) (hb : ∀ g, v.ownBlock = some g → w'.heap[g]? = w.heap[g]?) : RowL w' base e size v n xs := by
  refine ⟨h.1, ?_⟩
  rcases h.2 with h | ⟨g, cap, cur, h1, h2, h3, h4⟩
  · exact .inl h
  · exact .inr ⟨g, cap, cur, h1, h2, by rw [hb g (by rw [h1]; rfl)]; exact h3, h4⟩
theorem RowL.grown (h : RowL w base e size v n xs) {row : Option Nat} (hg : w.grownBy w' row) (hne : v.ownBlock = none ∨ v.ownBlock ≠ row) : RowL w' base e size v n xs :=
  h.block_ fun g hv => hg.block g (h.ge g hv).2 (fun e => by
    rcases hne with hn | hn
    · rw [hn] at hv; cases hv
    · exact hn (by rw [hv, e]))
theorem RowL.below (h : RowL w base e size v n xs) (hb : Below w.heap.size w w') : RowL w' base e size v n xs := h.block_ fun g hv => hb.block g (h.ge g hv).2
theorem RowL.drew (h : RowL w base e size v n xs) : RowL w.drew base e size v n xs := h
theorem RowL.slice (h : RowL w base e size v n xs) : ∃ A c, v = .slice A n c ∧ n ≤ c ∧ Reads w w.heap.size size A n xs := by
  rcases h.2 with ⟨rfl, rfl⟩ | ⟨g, cap, cur, rfl, h2, h3, h4, h5, h6⟩
  · exact ⟨none, 0, rfl, Nat.le_refl _, h.1, fun h => absurd h (by omega)⟩
  · refine ⟨_, cap, rfl, h4, h.1, fun hn => ⟨_, rfl, (Array.getElem?_eq_some_iff.1 h3).1, fun j u hu => ?_⟩⟩
    have hj : j < n * size := by have := (List.getElem?_eq_some_iff.1 hu).1; rw [h.1] at this; exact this
    rw [show (⟨g, 0, none⟩ : Addr).add j = ⟨g, j, none⟩ from by unfold Addr.add; split <;> simp_all, cell_of_row w g j cur e (0, 0) h3]
    rw [← h5, List.getElem?_take, if_pos hj] at hu
    simpa using hu
theorem RowL.form (h : RowL w base e size v n xs) (hn : 0 < n) : ∃ g cap, v = .slice (some ⟨g, 0, none⟩) n cap ∧ n ≤ cap ∧ base ≤ g ∧ g < w.heap.size := by
  rcases h.2 with ⟨_, h0⟩ | ⟨g, cap, cur, h1, h2, h3, h4, _⟩
  · omega
  · exact ⟨g, cap, h1, h4, h2, (Array.getElem?_eq_some_iff.1 h3).1⟩
theorem RowL.cut {g cap k : Nat} (h : RowL w base e size (.slice (some ⟨g, 0, none⟩) n cap) n xs) (hk : k ≤ n) : RowL w base e size (.slice (some ⟨g, 0, none⟩) k k) k (xs.take (k * size)) := by
  have hl : k * size ≤ n * size := Nat.mul_le_mul_right _ hk
  refine ⟨by rw [List.length_take, h.1]; omega, ?_⟩
  rcases h.2 with ⟨h', _⟩ | ⟨g', cap', cur, h1, h2, h3, h4, h5, h6⟩
  · simp at h'
  · simp only [Value.slice.injEq, Option.some.injEq, Addr.mk.injEq, and_true, true_and] at h1
    obtain ⟨rfl, rfl⟩ := h1
    exact .inr ⟨g, k, cur, rfl, h2, h3, Nat.le_refl _, by rw [← h5, List.take_take, Nat.min_eq_left hl], by omega⟩
theorem RowL.cell {g cap : Nat} (h : RowL w base e size (.slice (some ⟨g, 0, none⟩) n cap) n xs) (j : Nat) (hj : j < n * size) : w.cell? ⟨g, j, none⟩ = xs[j]? := by
  rcases h.2 with ⟨h', _⟩ | ⟨g', cap', cur, h1, h2, h3, h4, h5, h6⟩
  · simp at h'
  · simp only [Value.slice.injEq, Option.some.injEq, Addr.mk.injEq, and_true, true_and] at h1
    obtain ⟨rfl, rfl⟩ := h1
    rw [cell_of_row w g j cur e (0, 0) h3, ← h5, List.getElem?_take, if_pos hj]
    simp
theorem RowL.frozen {g cap : Nat} (h : RowL w base e size (.slice (some ⟨g, 0, none⟩) n cap) n xs) (j : Nat) : w.frozen? ⟨g, j, none⟩ = false := by
  rcases h.2 with ⟨h', _⟩ | ⟨g', cap', cur, h1, h2, h3, h4, h5, h6⟩
  · simp at h'
  · simp only [Value.slice.injEq, Option.some.injEq, Addr.mk.injEq, and_true, true_and] at h1
    obtain ⟨rfl, rfl⟩ := h1
    exact frozen_of_row w g j cur e h3
theorem RowL.stored {g cap : Nat} (h : RowL w base e size (.slice (some ⟨g, 0, none⟩) n cap) n xs) (j : Nat) (u : Value) :
    RowL (w.setCell ⟨g, j, none⟩ u) base e size (.slice (some ⟨g, 0, none⟩) n cap) n (xs.set j u) ∧ w.grownBy (w.setCell ⟨g, j, none⟩ u) (some g) := by
  rcases h.2 with ⟨h', _⟩ | ⟨g', cap', cur, h1, h2, h3, h4, h5, h6⟩
  · simp at h'
  · simp only [Value.slice.injEq, Option.some.injEq, Addr.mk.injEq, and_true, true_and] at h1
    obtain ⟨rfl, rfl⟩ := h1
    refine ⟨⟨by simpa using h.1, .inr ⟨g, cap, cur.setIfInBounds j u, rfl, h2, heap_setCell_same w g j cur e u h3, h4, ?_, by simpa using h6⟩⟩,
      ⟨rfl, rfl, rfl, by simp, fun k _ hk => heap_setCell_other w ⟨g, j, none⟩ k u (fun e => hk (by simp [e]))⟩⟩
    rw [Array.toList_setIfInBounds, ← h5, List.take_set]
end
end Go.Proofs.YtfjflefgclfbfaaGreat
end
section
namespace Go.Proofs.YtfjflefgclfbfaaGreat
open Go.RowKit Go.WideShapes Go.ChangeShapes
section
variable {H : Type} {enc : TypeId × Value → H} {P : Program} {w : World} {base : Nat} {spare : Nat → Bool} {held : Bool}
end
end Go.Proofs.YtfjflefgclfbfaaGreat
end
section
namespace Go.Proofs.YtfjflefgclfbfaaGreat
set_option linter.unusedVariables false
set_option linter.unusedSimpArgs false
section
variable {P : Program} {ops : Array Oper} {Q : Exit → Act → World → Prop} {md : Region.Mode} {T S : World → Prop} {late : List Nat}
def noneB (late : List Nat) (listed : Array Bool) : Bool := late.all fun j => !listed.getD j true
/-- T holds throughout, S till the first of the late ones. -/
def St (T S : World → Prop) (late : List Nat) (listed : Array Bool) (w : World) : Prop := T w ∧ (noneB late listed = true → S w)
theorem St.both {listed : Array Bool} {w : World} (h1 : T w) (h2 : S w) : St T S late listed w := ⟨h1, fun _ => h2⟩
theorem St.after {listed : Array Bool} {w : World} (h1 : T w) (h2 : noneB late listed = false) : St T S late listed w := ⟨h1, fun h => by rw [h2] at h; cases h⟩
/-- Whatever order is picked from here on. -/
def wpAnyE (P : Program) (md : Region.Mode) (ops : Array Oper) (Q : Exit → Act → World → Prop) (T S : World → Prop) (late : List Nat) : Nat → Array Bool → Act → World → Prop
  | 0, listed, a, w => Region.ready md ops listed = [] ∧ Q .normal a w
  | fuel + 1, listed, a, w =>
    (Region.ready md ops listed = [] → Q .normal a w) ∧
    ∀ i ∈ Region.ready md ops listed, wpOp P ops Q i (fun a' w' => St T S late (listed.setIfInBounds i true) w' ∧ wpAnyE P md ops Q T S late fuel (listed.setIfInBounds i true) a' w') a w
theorem wpAny_of_E : ∀ (fuel : Nat) (listed : Array Bool) (a : Act) (w : World), wpAnyE P md ops Q T S late fuel listed a w → wpAny P md ops Q fuel listed a w
  | 0, _, _, _, h => h
  | fuel + 1, _, _, _, h => ⟨h.1, fun i hi => wpOp_mono (fun a' w' h' => wpAny_of_E fuel _ a' w' h'.2) (h.2 i hi)⟩
/-- The late ones wait: for i, or for one another. -/
def lateB (md : Region.Mode) (ops : Array Oper) (late : List Nat) (i : Nat) : Bool :=
  late.all fun j => match ops[j]? with
    | some oj => oj.after.any (fun e => Region.binds md e && (e.on == i || late.contains e.on))
    | none => true
theorem early {i j : Nat} {listed : Array Bool} (hl : lateB md ops late i = true) (hn : noneB late listed = true) (hi : listed.getD i true = false) (hj : j ∈ Region.ready md ops listed) : late.contains j = false := by
  cases hc : late.contains j
  · rfl
  · exfalso
    unfold lateB at hl
    simp only [List.all_eq_true] at hl
    obtain ⟨_, oj, hoj, hall⟩ := mem_ready.1 hj
    have h1 := hl j (by simpa using hc)
    rw [hoj] at h1
    obtain ⟨e, he, hb⟩ := Array.any_eq_true'.1 h1
    simp only [Bool.and_eq_true, Bool.or_eq_true, beq_iff_eq] at hb
    have h2 := hall e he hb.1
    rcases hb.2 with q | q
    · rw [q] at h2
      rcases Nat.lt_or_ge i listed.size with h' | h'
      · simp [h'] at h2 hi; rw [hi] at h2; cases h2
      · simp [Array.getElem?_eq_none h'] at h2
    · unfold noneB at hn
      rw [List.all_eq_true] at hn
      have := hn e.on (by simpa using q)
      rcases Nat.lt_or_ge e.on listed.size with h' | h'
      · simp [h'] at h2 this; rw [h2] at this; cases this
      · simp [Array.getElem?_eq_none h'] at h2
theorem none_set {j : Nat} {listed : Array Bool} (hn : noneB late listed = true) (hc : late.contains j = false) : noneB late (listed.setIfInBounds j true) = true := by
  unfold noneB at *
  rw [List.all_eq_true] at *
  intro k hk
  have hne : j ≠ k := by
    rintro rfl
    have : late.contains j = true := by simpa using hk
    rw [this] at hc
    cases hc
  rw [getD_set_ne true hne]
  exact hn k hk
theorem none_less {j : Nat} {listed : Array Bool} (hn : noneB late (listed.setIfInBounds j true) = true) : noneB late listed = true := by
  unfold noneB at *
  rw [List.all_eq_true] at *
  intro k hk
  have := hn k hk
  cases hg : listed.getD k true
  · rfl
  · by_cases hjk : j = k
    · subst hjk
      rcases Nat.lt_or_ge j listed.size with h' | h'
      · rw [Array.getD_eq_getD_getElem?, Array.getElem?_setIfInBounds_self_of_lt h'] at this
        cases this
      · rw [Array.setIfInBounds_eq_of_size_le h', hg] at this
        cases this
    · rw [getD_set_ne true hjk, hg] at this
      cases this
/-- What is asked where i is taken first: with b, S may be used. -/
def okE (md : Region.Mode) (ops : Array Oper) (late : List Nat) (listed : Array Bool) (i : Nat) (b : Bool) : Bool := !b || (lateB md ops late i && noneB late listed)
def SS (T S : World → Prop) (b : Bool) (w : World) : Prop := T w ∧ (b = true → S w)
theorem wpAnyE_first {i : Nat} {oi : Oper} {v : Value} (b : Bool) (hil : late.contains i = false) (hi : ops[i]? = some oi) (hsel : ∀ (j : Nat) (o : Oper) cs b, ops[j]? = some o → o.op ≠ .select cs b)
    (hQ : ∀ c a w, Q (.panic c) (a.put oi.dst v) w → Q (.panic c) a w) :
    ∀ (fuel : Nat) (listed : Array Bool) (a : Act) (w : World),
      (∀ j oj, ops[j]? = some oj → j ≠ i → listed.getD j true = false → (∀ e ∈ oj.after, Region.binds md e = true → e.on ≠ i) → oi.apart ops oj = true) →
      (b = true → lateB md ops late i = true ∧ noneB late listed = true) → i ∈ Region.ready md ops listed → YieldsIf P ops (SS T S b) oi v a → St T S late listed w →
      wpAnyE P md ops Q T S late fuel (listed.setIfInBounds i true) (a.put oi.dst v) w → wpAnyE P md ops Q T S late (fuel + 1) listed a w := by
  intro fuel
  induction fuel with
  | zero =>
    intro listed a w _ hb hr hy hS H
    refine ⟨fun h => (by rw [h] at hr; cases hr), fun j hj => ?_⟩
    by_cases hji : j = i
    · subst hji; exact hy.wpOp hi ⟨hS.1, fun q => hS.2 (hb q).2⟩ ⟨⟨hS.1, fun q => hS.2 (none_less q)⟩, H⟩
    · have := ready_mono hj hji
      rw [H.1] at this
      cases this
  | succ fuel ih =>
    intro listed a w hfree hb hr hy hS H
    refine ⟨fun h => (by rw [h] at hr; cases hr), fun j hj => ?_⟩
    by_cases hji : j = i
    · subst hji; exact hy.wpOp hi ⟨hS.1, fun q => hS.2 (hb q).2⟩ ⟨⟨hS.1, fun q => hS.2 (none_less q)⟩, H⟩
    · have h1 := H.2 j (ready_mono hj hji)
      obtain ⟨hjun, oj, hoj, hall⟩ := mem_ready.1 hj
      have hiu := (mem_ready.1 hr).1
      have hnot : ∀ e ∈ oj.after, Region.binds md e = true → e.on ≠ i := fun e he hb heq => by
        have h1 := hall e he hb
        have h0 := hiu
        rw [heq] at h1
        rcases Nat.lt_or_ge i listed.size with h' | h'
        · simp [h'] at h0 h1; rw [h0] at h1; cases h1
        · simp [Array.getElem?_eq_none h'] at h1
      have h2 := wpOp_putIf hoj (hfree j oj hoj hji hjun hnot) (fun cs b => hsel i oi cs b hi) (fun cs b => hsel j oj cs b hoj) hQ hy h1
      have hfree' : ∀ k ok, ops[k]? = some ok → k ≠ i → (listed.setIfInBounds j true).getD k true = false →
          (∀ e ∈ ok.after, Region.binds md e = true → e.on ≠ i) → oi.apart ops ok = true := fun k ok hk hki hun hno => by
        refine hfree k ok hk hki ?_ hno
        by_cases hjk : j = k
        · subst hjk; exact hjun
        · rw [getD_set_ne true hjk] at hun; exact hun
      refine wpOp_mono (fun a' w' h3 => ?_) h2
      have h4 : St T S late (listed.setIfInBounds j true) w' := ⟨h3.2.1.1, fun q => h3.2.1.2 (by
        rw [Array.setIfInBounds_comm _ _ (Ne.symm hji)]
        exact none_set q hil)⟩
      refine ⟨h4, ih (listed.setIfInBounds j true) a' w' hfree' (fun q => ⟨(hb q).1, none_set (hb q).2 (early (hb q).1 (hb q).2 hiu hj)⟩) (ready_mono hr (Ne.symm hji)) h3.1 h4 ?_⟩
      rw [Array.setIfInBounds_comm _ _ hji]
      exact h3.2.2
def opAt (ops : Array Oper) (i : Nat) : Option (Option Tmp × Op) := (ops[i]?).map fun o => (o.dst, o.op)
def wantAt (ops : Array Oper) (i : Nat) (a : Act) : Option Bool := (ops[i]?).map fun o => Region.wanted o (yielded ops a.tmps)
/-- All that is asked of a region where number i is taken first. -/
def checkE (md : Region.Mode) (ops : Array Oper) (late : List Nat) (listed : Array Bool) (i : Nat) (b : Bool) : Bool :=
  Region.noSelect ops && (Region.free md ops listed i && ((Region.ready md ops listed).contains i && (!late.contains i && (!b || (lateB md ops late i && noneB late listed)))))
theorem opAt_inv {i : Nat} {d : Option Tmp} {op : Op} (h : opAt ops i = some (d, op)) : ∃ o, ops[i]? = some o ∧ o.dst = d ∧ o.op = op := by
  unfold opAt at h
  cases e : ops[i]? with
  | none => rw [e] at h; cases h
  | some o =>
    rw [e] at h
    injection h with h
    injection h with h1 h2
    exact ⟨o, rfl, h1, h2⟩
theorem wantAt_inv {i : Nat} {a : Act} {b : Bool} {o : Oper} (h : wantAt ops i a = some b) (ho : ops[i]? = some o) : Region.wanted o (yielded ops a.tmps) = b := by
  unfold wantAt at h
  rw [ho] at h
  injection h
section
variable {fuel : Nat} {listed : Array Bool} {a : Act} {w : World}
theorem wpAnyE_take (b : Bool) {i : Nat} {oi : Oper} {v : Value} (hi : ops[i]? = some oi) (hc : checkE md ops late listed i b = true) (hQ : ∀ c a w, Q (.panic c) (a.put oi.dst v) w → Q (.panic c) a w) (hy : YieldsIf P ops (SS T S b) oi v a) (hS : St T S late listed w)
    (h : wpAnyE P md ops Q T S late fuel (listed.setIfInBounds i true) (a.put oi.dst v) w) : wpAnyE P md ops Q T S late (fuel + 1) listed a w := by
  unfold checkE at hc
  simp only [Bool.and_eq_true, Bool.or_eq_true, Bool.not_eq_true'] at hc
  obtain ⟨h1, h2, h3, h4, h5⟩ := hc
  exact wpAnyE_first b h4 hi (Region.noSelect_spec h1) hQ fuel listed a w (Region.free_spec hi h2) (fun q => by
    rcases h5 with h5 | h5
    · rw [q] at h5; cases h5
    · exact h5) (by simpa using h3) hy hS h
/-- Number i is taken first. -/
theorem E_any (b : Bool) (i : Nat) (d : Option Tmp) (op : Op) (v : Value) (ho : opAt ops i = some (d, op)) (hc : checkE md ops late listed i b = true) (hw : wantAt ops i a = some true) (hQ : ∀ c a w, Q (.panic c) (a.put d v) w → Q (.panic c) a w)
    (hy : ∀ o : Oper, o.op = op → ∀ w, SS T S b w → (execOp a.eval o).run P w = .ok (.value v) w) (hS : St T S late listed w) (h : wpAnyE P md ops Q T S late fuel (listed.setIfInBounds i true) (a.put d v) w) : wpAnyE P md ops Q T S late (fuel + 1) listed a w := by
  obtain ⟨o, h1, h2, h3⟩ := opAt_inv ho
  subst h2
  exact wpAnyE_take b h1 hc hQ (.inl ⟨wantAt_inv hw h1, hy o h3⟩) hS h
/-- One that is not wanted. -/
theorem E_not (i : Nat) (d : Option Tmp) (op : Op) (ho : opAt ops i = some (d, op)) (hc : checkE md ops late listed i false = true) (hw : wantAt ops i a = some false) (hQ : ∀ c a w, Q (.panic c) (a.put d undef) w → Q (.panic c) a w)
    (hS : St T S late listed w) (h : wpAnyE P md ops Q T S late fuel (listed.setIfInBounds i true) (a.put d undef) w) : wpAnyE P md ops Q T S late (fuel + 1) listed a w := by
  obtain ⟨o, h1, h2, h3⟩ := opAt_inv ho
  subst h2
  exact wpAnyE_take false h1 hc hQ (.inr ⟨wantAt_inv hw h1, rfl⟩) hS h
theorem E_move (i : Nat) (d : Option Tmp) (x : Operand) (v : Value) (ho : opAt ops i = some (d, .move x)) (hc : checkE md ops late listed i false = true) (hw : wantAt ops i a = some true) (hQ : ∀ c a w, Q (.panic c) (a.put d v) w → Q (.panic c) a w)
    (hx : a.eval x = v) (hS : St T S late listed w) (h : wpAnyE P md ops Q T S late fuel (listed.setIfInBounds i true) (a.put d v) w) : wpAnyE P md ops Q T S late (fuel + 1) listed a w :=
  E_any false i d _ v ho hc hw hQ (fun o e w _ => by rw [BigFrame.run_move x e, hx]) hS h
theorem E_pick (i : Nat) (d : Option Tmp) (c x y : Operand) (b : Bool) (v : Value) (ho : opAt ops i = some (d, .pick c x y)) (hc : checkE md ops late listed i false = true) (hw : wantAt ops i a = some true) (hQ : ∀ c a w, Q (.panic c) (a.put d v) w → Q (.panic c) a w)
    (hb : a.eval c = .bool b) (hv : (if b then a.eval x else a.eval y) = v) (hS : St T S late listed w) (h : wpAnyE P md ops Q T S late fuel (listed.setIfInBounds i true) (a.put d v) w) : wpAnyE P md ops Q T S late (fuel + 1) listed a w :=
  E_any false i d _ v ho hc hw hQ (fun o e w _ => by
    unfold execOp
    subst hv
    cases b <;> simp [e, hb, asBool]) hS h
/-- nil check of a pointer. -/
theorem E_nil (i : Nat) (d : Option Tmp) (x : Operand) (ad : Addr) (ho : opAt ops i = some (d, .nilCheck x)) (hc : checkE md ops late listed i false = true) (hw : wantAt ops i a = some true) (hQ : ∀ c a w, Q (.panic c) (a.put d (.pointer (some ad))) w → Q (.panic c) a w)
    (hx : a.eval x = .pointer (some ad)) (hS : St T S late listed w) (h : wpAnyE P md ops Q T S late fuel (listed.setIfInBounds i true) (a.put d (.pointer (some ad))) w) : wpAnyE P md ops Q T S late (fuel + 1) listed a w :=
  E_any false i d _ _ ho hc hw hQ (fun o e w _ => by unfold execOp; simp [e, hx]) hS h
/-- One operation that comes up. -/
def StepE (P : Program) (md : Region.Mode) (ops : Array Oper) (Q : Exit → Act → World → Prop) (T S : World → Prop) (late : List Nat) (fuel : Nat) (listed : Array Bool) (a : Act) (w : World) (i : Nat) : Prop :=
  wpOp P ops Q i (fun a' w' => St T S late (listed.setIfInBounds i true) w' ∧ wpAnyE P md ops Q T S late fuel (listed.setIfInBounds i true) a' w') a w
theorem E_one (i : Nat) (hr : Region.ready md ops listed = [i]) (h : StepE P md ops Q T S late fuel listed a w i) : wpAnyE P md ops Q T S late (fuel + 1) listed a w :=
  ⟨fun h0 => (by rw [hr] at h0; cases h0), fun j hj => (by rw [hr] at hj; simp at hj; subst hj; exact h)⟩
theorem E_two (i j : Nat) (hr : Region.ready md ops listed = [i, j]) (h : StepE P md ops Q T S late fuel listed a w i) (h2 : StepE P md ops Q T S late fuel listed a w j) : wpAnyE P md ops Q T S late (fuel + 1) listed a w :=
  ⟨fun h0 => (by rw [hr] at h0; cases h0), fun k hk => (by
    rw [hr] at hk
    simp at hk
    rcases hk with rfl | rfl
    · exact h
    · exact h2)⟩
theorem StepE.of (i : Nat) (d : Option Tmp) (op : Op) (ho : opAt ops i = some (d, op)) (hw : wantAt ops i a = some true)
    (h : ∀ (o : Oper) (K : Act → World → Prop), o.dst = d → o.op = op → (∀ a w, St T S late (listed.setIfInBounds i true) w → wpAnyE P md ops Q T S late fuel (listed.setIfInBounds i true) a w → K a w) → Oper.wp P o a w K Q) : StepE P md ops Q T S late fuel listed a w i := by
  obtain ⟨o, h1, h2, h3⟩ := opAt_inv ho
  exact wpOp_step h1 fun K hK => by
    rw [if_pos (wantAt_inv hw h1)]
    exact h o K h2 h3 fun a w hS hW => hK a w ⟨hS, hW⟩
theorem StepE.run (i : Nat) (d : Option Tmp) (op : Op) (v : Value) (w1 : World) (ho : opAt ops i = some (d, op)) (hw : wantAt ops i a = some true) (hy : ∀ o : Oper, o.op = op → (execOp a.eval o).run P w = .ok (.value v) w1)
    (hS : St T S late (listed.setIfInBounds i true) w1) (h : wpAnyE P md ops Q T S late fuel (listed.setIfInBounds i true) (a.put d v) w1) : StepE P md ops Q T S late fuel listed a w i :=
  StepE.of i d op ho hw fun o K h2 h3 hK => by
    unfold Oper.wp
    rw [hy o h3, Oper.upon_value, h2]
    exact hK _ _ hS h
theorem StepE.skip (i : Nat) (op : Op) (w1 : World) (ho : opAt ops i = some (none, op)) (hw : wantAt ops i a = some true) (hy : ∀ o : Oper, o.op = op → (execOp a.eval o).run P w = .ok .skip w1)
    (hS : St T S late (listed.setIfInBounds i true) w1) (h : wpAnyE P md ops Q T S late fuel (listed.setIfInBounds i true) (a.put none undef) w1) : StepE P md ops Q T S late fuel listed a w i :=
  StepE.of i none op ho hw fun o K h2 h3 hK => by
    unfold Oper.wp
    rw [hy o h3, Oper.upon_skip, h2]
    exact hK _ _ hS h
theorem StepE.assign (i : Nat) (d : Option Tmp) (x : Operand) (v : Value) (ho : opAt ops i = some (d, .assign x)) (hw : wantAt ops i a = some true) (hx : a.eval x = v)
    (hS : St T S late (listed.setIfInBounds i true) w) (h : wpAnyE P md ops Q T S late fuel (listed.setIfInBounds i true) (a.put d v) w) : StepE P md ops Q T S late fuel listed a w i :=
  StepE.run i d _ v w ho hw (fun o e => by rw [BigFrame.run_assign x e, hx]) hS h
end
theorem wpAnyE_done {listed : Array Bool} {a : Act} {w : World} (hr : Region.ready md ops listed = []) (h : Q .normal a w) : ∀ fuel, wpAnyE P md ops Q T S late fuel listed a w
  | 0 => ⟨hr, h⟩
  | _ + 1 => ⟨fun _ => h, by rw [hr]; simp⟩
/-- The beginning. -/
theorem wp_region_E (T S : World → Prop) (late : List Nat) {id : Nat} {a : Act} {w : World} (hm : P.follows .mixedOrders = true)
    (h : wpAnyE P .any ops Q T S late ops.size (Array.replicate ops.size false) a w.drew) : (Code.region id ops true).wp P Q a w :=
  wp_region_any hm (wpAny_of_E _ _ _ _ h)
end
end Go.Proofs.YtfjflefgclfbfaaGreat
end
section
namespace Go.Proofs.YtfjflefgclfbfaaGreat
open Go.RowKit
set_option linter.unusedVariables false
set_option linter.unusedSimpArgs false
section
variable {P : Program} {w : World}
theorem run_loadVar_one (ty : TypeId) (ad : Addr) (d : TypeDesc) (v : Value) (hu : P.underlying ty = some d) (hd : aggD d = false) (hc : w.cell? ad = some v) : (loadVar ty ad).run P w = .ok v w := by
  have hagg : (isAgg ty).run P w = .ok false w := by
    unfold isAgg
    rw [Sem.run_bind, run_underlying hu w]
    cases d <;> simp_all [aggD]
  simp [loadVar, Sem.run_bind, hagg, hc, go_sem]
theorem run_storeVar_one (ty : TypeId) (g j : Nat) (te : TypeId) (cs : Array Value) (v : Value) (hb : Blk w g te cs) (hj : j < cs.size) (hi : (P.info? ty).map (·.size) = some 1) (hv : v.cells = #[v]) (h1 : v.oneCell' = true) : (storeVar ty ⟨g, j, none⟩ v).run P w = .ok () (w.setCell ⟨g, j, none⟩ v) := by
  have hc : w.cell? ⟨g, j, none⟩ = some cs[j] := by rw [hb.cell]; simp [hj]
  have hf := hb.frozen j
  cases hq : P.info? ty with
  | none => simp [hq] at hi
  | some i =>
    have hs : i.size = 1 := by simpa [hq] using hi
    have h2 : (store ⟨g, j, none⟩ v).run P w = .ok () (w.setCell ⟨g, j, none⟩ v) := (run_store P w _ _ _ h1).trans (by simp [stored, hc, hf])
    have ha : (⟨g, j, none⟩ : Addr).add 0 = ⟨g, j, none⟩ := rfl
    simp [storeVar, Sem.run_bind, sizeOf, typeInfo, hq, hs, hv, storeCells, ha, h2]
end
section
variable {P : Program} {ops : Array Oper} {Q : Exit → Act → World → Prop} {md : Region.Mode} {T S : World → Prop} {late : List Nat} {fuel : Nat} {listed : Array Bool} {a : Act} {w : World}
/-- A load of an aggregate, taken first. -/
theorem E_load (b : Bool) (i : Nat) (d : Option Tmp) (ty : TypeId) (x : Operand) (ad : Addr) (cs : List Value) (de : TypeDesc) (ho : opAt ops i = some (d, .load ty x)) (hc : checkE md ops late listed i b = true) (hw : wantAt ops i a = some true)
    (hQ : ∀ c u w, Q (.panic c) (Act.put u d (.agg cs.toArray)) w → Q (.panic c) u w) (hx : a.eval x = .pointer (some ad)) (hl : ∀ w, SS T S b w → ∀ j u, cs[j]? = some u → w.cell? (ad.add j) = some u)
    (hu : P.underlying ty = some de) (hd : aggD de = true) (hi : (P.info? ty).map (·.size) = some cs.length) (hS : St T S late listed w) (h : wpAnyE P md ops Q T S late fuel (listed.setIfInBounds i true) (a.put d (.agg cs.toArray)) w) : wpAnyE P md ops Q T S late (fuel + 1) listed a w :=
  E_any b i d _ _ ho hc hw (fun c u w => hQ c u w) (fun o e w hS => by
    unfold execOp
    simp only [e, hx, Instr.loadAt, Instr.sureAddr, Sem.run_bind, Sem.run_pure, Result.andThen_ok, run_loadVar_at w ad ty cs de (hl w hS) hu hd hi]) hS h
/-- A load of one cell, taken first. -/
theorem E_load1 (b : Bool) (i : Nat) (d : Option Tmp) (ty : TypeId) (x : Operand) (ad : Addr) (v : Value) (ho : opAt ops i = some (d, .load ty x)) (hc : checkE md ops late listed i b = true) (hw : wantAt ops i a = some true)
    (hQ : ∀ c a w, Q (.panic c) (a.put d v) w → Q (.panic c) a w) (hx : a.eval x = .pointer (some ad)) (hl : ∀ w, SS T S b w → (loadVar ty ad).run P w = .ok v w)
    (hS : St T S late listed w) (h : wpAnyE P md ops Q T S late fuel (listed.setIfInBounds i true) (a.put d v) w) : wpAnyE P md ops Q T S late (fuel + 1) listed a w :=
  E_any b i d _ _ ho hc hw hQ (fun o e w hS => by
    unfold execOp
    simp only [e, hx, Instr.loadAt, Instr.sureAddr, Sem.run_bind, Sem.run_pure, Result.andThen_ok, hl w hS]) hS h
theorem E_bin (i : Nat) (d : Option Tmp) (b : BinOp) (t yt : TypeId) (x y : Operand) (u z v : Value) (ho : opAt ops i = some (d, .binOp b t x y yt)) (hc : checkE md ops late listed i false = true) (hw : wantAt ops i a = some true)
    (hQ : ∀ c a w, Q (.panic c) (a.put d v) w → Q (.panic c) a w) (hx : a.eval x = u) (hy : a.eval y = z) (hr : ∀ w, (do eqGuard b t x y u z; binOp b t u z : Sem Value).run P w = .ok v w)
    (hS : St T S late listed w) (h : wpAnyE P md ops Q T S late fuel (listed.setIfInBounds i true) (a.put d v) w) : wpAnyE P md ops Q T S late (fuel + 1) listed a w :=
  E_any false i d _ _ ho hc hw hQ (fun o e w hS => by
    unfold execOp
    have := hr w
    simp only [e, hx, hy, Sem.run_bind, Sem.run_pure] at this ⊢
    rw [this]
    rfl) hS h
/-- All of a block is stored. -/
theorem StepE.store_whole (i : Nat) (ty : TypeId) (x y : Operand) (g : Nat) (Z X : List Value) (ho : opAt ops i = some (none, .store ty x y)) (hw : wantAt ops i a = some true) (hB : Blk w g ty Z.toArray)
    (hx : a.eval x = .pointer (some ⟨g, 0, none⟩)) (hy : a.eval y = .agg X.toArray) (hi : (P.info? ty).map (·.size) = some X.length) (hl : Z.length = X.length) (h1 : ∀ u ∈ X, u.oneCell' = true)
    (hK : ∀ w', Blk w' g ty X.toArray → w.grownBy w' (some g) → St T S late (listed.setIfInBounds i true) w' ∧ wpAnyE P md ops Q T S late fuel (listed.setIfInBounds i true) (a.put none undef) w') : StepE P md ops Q T S late fuel listed a w i :=
  StepE.of i none _ ho hw fun o K h2 h3 hKK => by
    unfold Oper.wp execOp
    simp only [h3, hx, hy, Instr.storeAt, Instr.sureAddr, Sem.run_bind, Sem.run_pure, Result.andThen_ok, run_storeVar_at w g 0 ty ty Z X (.agg X.toArray) hB rfl hi (by omega) h1]
    rw [Oper.upon_skip, h2]
    have hov : overC Z 0 X = X := by
      unfold overC
      rw [List.take_zero, List.nil_append, Nat.zero_add, List.drop_of_length_le (by omega), List.append_nil]
    have hxx := setRow_heap w g _ (overC Z 0 X).toArray ty (0, 0) hB
    rw [hov] at hxx ⊢
    have := hK _ hxx (grown_setRow w g _)
    exact hKK _ _ this.1 this.2
/-- One cell of a block is stored. -/
theorem StepE.store_cell (i : Nat) (ty te : TypeId) (x y : Operand) (g j : Nat) (cs : Array Value) (v : Value) (ho : opAt ops i = some (none, .store ty x y)) (hw : wantAt ops i a = some true) (hB : Blk w g te cs)
    (hx : a.eval x = .pointer (some ⟨g, j, none⟩)) (hy : a.eval y = v) (hr : (storeVar ty ⟨g, j, none⟩ v).run P w = .ok () (w.setCell ⟨g, j, none⟩ v))
    (hK : ∀ w', Blk w' g te (cs.setIfInBounds j v) → w.grownBy w' (some g) → St T S late (listed.setIfInBounds i true) w' ∧ wpAnyE P md ops Q T S late fuel (listed.setIfInBounds i true) (a.put none undef) w') : StepE P md ops Q T S late fuel listed a w i :=
  StepE.of i none _ ho hw fun o K h2 h3 hKK => by
    unfold Oper.wp execOp
    simp only [h3, hx, hy, Instr.storeAt, Instr.sureAddr, Sem.run_bind, Sem.run_pure, Result.andThen_ok, hr]
    rw [Oper.upon_skip, h2]
    have := hK _ (hB.set_ j v) ⟨rfl, rfl, rfl, by simp, fun k _ hk => heap_setCell_other w ⟨g, j, none⟩ k v (fun e => hk (by simp [e]))⟩
    exact hKK _ _ this.1 this.2
/-- A value of one element laid into a slice of its own. -/
theorem StepE.slice_one (i : Nat) (d : Option Tmp) (t e : TypeId) (x : Operand) (i0 : TypeInfo) (z v : Value) (ho : opAt ops i = some (d, .buildSlice t 1 #[(0, x)])) (hw : wantAt ops i a = some true) (ht : P.underlying t = some (.slice e)) (hi : P.info? e = some i0) (hz : i0.zero = some z)
    (hs : i0.size ≤ 1024) (h0 : 0 < i0.size) (hx : a.eval x = v) (hv : v.cells.size = i0.size)
    (hK : ∀ w' g, w.heap.size ≤ g → Blk w' g e v.cells → Below w.heap.size w w' → St T S late (listed.setIfInBounds i true) w' ∧ wpAnyE P md ops Q T S late fuel (listed.setIfInBounds i true) (a.put d (.slice (some ⟨g, 0, none⟩) 1 1)) w') : StepE P md ops Q T S late fuel listed a w i :=
  StepE.of i d _ ho hw fun o K h2 h3 hKK => by
    unfold Oper.wp execOp
    have hrun := run_buildSlice_one (P := P) w t e i0 z v ht hi hz hs h0 hv
    simp only [h3, Sem.run_bind, List.map_toArray, List.map_cons, List.map_nil, hx, hrun, Result.andThen_ok, Sem.run_pure]
    have := hK _ _ (Nat.le_refl _) (Blk.new w e v.cells) ((Below.refl _ _).alloc (Nat.le_refl _) _)
    rw [Oper.upon_value, h2]
    exact hKK _ _ this.1 this.2
/-- A field's address, taken first. -/
theorem E_field (i : Nat) (d : Option Tmp) (st : TypeId) (x : Operand) (f : Nat) (ad ad' : Addr) (ho : opAt ops i = some (d, .fieldAddr st x f)) (hc : checkE md ops late listed i false = true) (hw : wantAt ops i a = some true)
    (hQ : ∀ c a w, Q (.panic c) (a.put d (.pointer (some ad'))) w → Q (.panic c) a w) (hx : a.eval x = .pointer (some ad)) (hr : ∀ w, (Instr.fieldAt st (.pointer (some ad)) f).run P w = .ok (.pointer (some ad')) w)
    (hS : St T S late listed w) (h : wpAnyE P md ops Q T S late fuel (listed.setIfInBounds i true) (a.put d (.pointer (some ad'))) w) : wpAnyE P md ops Q T S late (fuel + 1) listed a w :=
  E_any false i d _ _ ho hc hw hQ (fun o e w _ => by
    unfold execOp
    simp only [e, hx, Sem.run_bind, hr, Result.andThen_ok, Sem.run_pure]) hS h
/-- The one field of a tuple. -/
theorem StepE.extract (i : Nat) (d : Option Tmp) (x : Operand) (k : Nat) (vs : Array Value) (v : Value) (ho : opAt ops i = some (d, .extract x k)) (hw : wantAt ops i a = some true) (hx : a.eval x = .tuple vs) (hv : vs[k]? = some v)
    (hS : St T S late (listed.setIfInBounds i true) w) (h : wpAnyE P md ops Q T S late fuel (listed.setIfInBounds i true) (a.put d v) w) : StepE P md ops Q T S late fuel listed a w i :=
  StepE.run i d _ v w ho hw (fun o e => by
    unfold execOp
    simp [e, hx, Instr.extract, hv]) hS h
/-- A pure step in its turn. -/
theorem StepE.nil (i : Nat) (d : Option Tmp) (x : Operand) (ad : Addr) (ho : opAt ops i = some (d, .nilCheck x)) (hw : wantAt ops i a = some true) (hx : a.eval x = .pointer (some ad))
    (hS : St T S late (listed.setIfInBounds i true) w) (h : wpAnyE P md ops Q T S late fuel (listed.setIfInBounds i true) (a.put d (.pointer (some ad))) w) : StepE P md ops Q T S late fuel listed a w i :=
  StepE.run i d _ _ w ho hw (fun o e => by unfold execOp; simp [e, hx]) hS h
theorem StepE.field (i : Nat) (d : Option Tmp) (st : TypeId) (x : Operand) (f : Nat) (ad ad' : Addr) (ho : opAt ops i = some (d, .fieldAddr st x f)) (hw : wantAt ops i a = some true) (hx : a.eval x = .pointer (some ad)) (hr : ∀ w, (Instr.fieldAt st (.pointer (some ad)) f).run P w = .ok (.pointer (some ad')) w)
    (hS : St T S late (listed.setIfInBounds i true) w) (h : wpAnyE P md ops Q T S late fuel (listed.setIfInBounds i true) (a.put d (.pointer (some ad'))) w) : StepE P md ops Q T S late fuel listed a w i :=
  StepE.run i d _ _ w ho hw (fun o e => by
    unfold execOp
    simp only [e, hx, Sem.run_bind, hr, Result.andThen_ok, Sem.run_pure]) hS h
/-- append. -/
theorem StepE.append (i : Nat) (d : Option Tmp) (t e : TypeId) (s x : Operand) (base : Nat) (i0 : TypeInfo) (z : Value) (size bytes : Nat) (ho : opAt ops i = some (d, .call { callee := .builtin .append, args := #[s, x], argTypes := #[t, t] })) (hw : wantAt ops i a = some true)
    (ht : P.underlying t = some (.slice e)) (hi : P.info? e = some i0) (hz : i0.zero = some z) (hsize : i0.size = size) (hby : i0.bytes = bytes) (hzs : z.cells.size = size) (hsz : 0 < size)
    (v : Value) (n : Nat) (xs : List Value) (hs : a.eval s = v) (hown : w.ownsRow base e size v n xs) (B : Nat) (A : Option Addr) (m c : Nat) (news : List Value) (hx : a.eval x = .slice A m c) (hr : Reads w B size A m news) (h1 : ∀ u ∈ news, u.oneCell' = true)
    (h63 : n + m ≤ maxLen) (hbytes : (n + m) * bytes ≤ 140737488355328) (hbase : base ≤ w.heap.size)
    (hK : ∀ v' w', w'.ownsRow base e size v' (n + m) (xs ++ news) → w.grownBy w' v.ownBlock → (v'.ownBlock = v.ownBlock ∨ v'.ownBlock = some w.heap.size) → St T S late (listed.setIfInBounds i true) w' ∧ wpAnyE P md ops Q T S late fuel (listed.setIfInBounds i true) (a.put d v') w') : StepE P md ops Q T S late fuel listed a w i :=
  StepE.of i d _ ho hw fun o K h2 h3 hKK => wp_append_any w s x t h3 base e i0 z size bytes ht hi hz hsize hby hzs hsz v n xs hs hown B A m c news hx hr h1 h63 hbytes hbase fun v' w' q1 q2 q3 => by
    have := hK v' w' q1 q2 q3
    rw [h2]
    exact hKK _ _ this.1 this.2
end
end Go.Proofs.YtfjflefgclfbfaaGreat
end
section
namespace Go.Proofs.YtfjflefgclfbfaaGreat
open Go.RowKit
set_option linter.unusedVariables false
set_option linter.unusedSimpArgs false
section
variable {P : Program} {ops : Array Oper} {Q : Exit → Act → World → Prop} {md : Region.Mode} {T S : World → Prop} {late : List Nat} {fuel : Nat} {listed : Array Bool} {a : Act} {w : World}
/-- A map's entry. -/
theorem StepE.entry (i : Nat) (d : Option Tmp) (t : TypeId) (m k : Operand) (mv kv v : Value) (w1 : World) (ho : opAt ops i = some (d, .mapEntry t m k)) (hw : wantAt ops i a = some true) (hm : a.eval m = mv) (hk : a.eval k = kv) (hr : (Instr.mapEntry t mv kv).run P w = .ok v w1)
    (hS : St T S late (listed.setIfInBounds i true) w1) (h : wpAnyE P md ops Q T S late fuel (listed.setIfInBounds i true) (a.put d v) w1) : StepE P md ops Q T S late fuel listed a w i :=
  StepE.run i d _ v w1 ho hw (fun o e => by
    unfold execOp
    simp only [e, hm, hk, Sem.run_bind, hr, Result.andThen_ok, Sem.run_pure]) hS h
theorem StepE.entrySet (i : Nat) (t : TypeId) (m k x : Operand) (mv kv v : Value) (w1 : World) (ho : opAt ops i = some (none, .entryStore t m k x)) (hw : wantAt ops i a = some true) (hm : a.eval m = mv) (hk : a.eval k = kv) (hx : a.eval x = v) (hr : (Instr.entryStore t mv kv v).run P w = .ok () w1)
    (hS : St T S late (listed.setIfInBounds i true) w1) (h : wpAnyE P md ops Q T S late fuel (listed.setIfInBounds i true) (a.put none undef) w1) : StepE P md ops Q T S late fuel listed a w i :=
  StepE.skip i _ w1 ho hw (fun o e => by
    unfold execOp
    simp only [e, hm, hk, hx, Sem.run_bind, hr, Result.andThen_ok, Sem.run_pure]) hS h
/-- A map written at a key. -/
theorem StepE.mapSet (i : Nat) (t : TypeId) (m k x : Operand) (mv kv v : Value) (w1 : World) (ho : opAt ops i = some (none, .mapUpdate t m k x)) (hw : wantAt ops i a = some true) (hm : a.eval m = mv) (hk : a.eval k = kv) (hx : a.eval x = v) (hr : (Instr.mapUpdate t mv kv v).run P w = .ok () w1)
    (hS : St T S late (listed.setIfInBounds i true) w1) (h : wpAnyE P md ops Q T S late fuel (listed.setIfInBounds i true) (a.put none undef) w1) : StepE P md ops Q T S late fuel listed a w i :=
  StepE.skip i _ w1 ho hw (fun o e => by
    unfold execOp
    simp only [e, hm, hk, hx, Sem.run_bind, hr, Result.andThen_ok, Sem.run_pure]) hS h
end
end Go.Proofs.YtfjflefgclfbfaaGreat
end
section
namespace Go.Proofs.YtfjflefgclfbfaaGreat
open Go.RowKit
set_option linter.unusedVariables false
set_option linter.unusedSimpArgs false
section
variable {κ : Type} {P : Program} {k : TypeId} {enc : κ → Value} {V : κ → Prop} {b n : Nat} {f : κ → Option Value}
theorem wpQuiet_look {ops : Array Oper} {rest : List Oper} {o : Oper} {a : Act} {W : World} {Q : Act → Prop} (hgd : o.guard = none) (m y : Operand) (t : TypeId) (hop : o.op = .lookup t m y true) (e : TypeId) (E : KeyEnc P k enc V) (ht : P.underlying t = some (.map k e)) (z : Value)
    (hz : ∀ w, (zeroValue e).run P w = .ok z w) (h : MapIs P k enc V W b n f) (x : κ) (hx : V x) (hm : a.eval m = .map (some b)) (hy : a.eval y = enc x) (v : Value) (c : Bool) (hv : (f x).getD z = v) (hc : (f x).isSome = c)
    (hK : wpQuiet P ops (fun w' => ∃ n, w' = W.drewN n) Q rest (a.put o.dst (.tuple #[v, .bool c]))) : wpQuiet P ops (fun w' => ∃ n, w' = W.drewN n) Q (o :: rest) a := by
  have hw : Region.wanted o (yielded ops a.tmps) = true := by simp [Region.wanted, hgd]
  unfold wpQuiet
  rw [if_pos hw]
  subst hv hc
  refine ⟨_, ?_, hK⟩
  rintro w ⟨n, rfl⟩
  unfold Oper.quietAt execOp
  have := (h.drewN n).look E ht (hz _) x hx true
  simp only [hop, hm, hy, Sem.run_bind, this, Result.andThen_ok, Sem.run_pure]
  exact ⟨rfl, rfl⟩
end
end Go.Proofs.YtfjflefgclfbfaaGreat
end
