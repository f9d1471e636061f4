/-
  Parts of the proof of SymbcSound. Conditions: those written in each statement.
-/
import Derived.WideKeyEntry
import Derived.Test.YtepagfkkjlbipaaGreatKac
import Derived.OrdersHeld
import Derived.Deep.RegionHeld
import Derived.BigRegion
set_option linter.unusedVariables false
set_option linter.unusedSimpArgs false
set_option maxHeartbeats 64000000
set_option maxRecDepth 100000
namespace Go.Proofs.YtepagfkkjlbipaaGreat
section
inductive InT (T : List TD) : Nat → Nat → Prop
 | self (n : Nat) : InT T n n
 | part (n k i : Nat) (t : TD) (ht : T[n]? = some t) (hk : (k : Int) ∈ prtL t) (h : InT T k i) : InT T n i
def vnum (n : Int) : Int := IntKind.i64.wrap n
def IsV (T : List TD) (n : Nat) (v : Int) : Prop := ∃ (i : Nat) (t : TD), InT T n i ∧ T[i]? = some t ∧ t.kind = 1 ∧ vnum t.n = v
def IsVars (T : List TD) (n : Nat) (l : List Int) : Prop := l.Pairwise (· < ·) ∧ ∀ v, v ∈ l ↔ IsV T n v
/-! ### gone over once -/
theorem nodup_le : ∀ (n : Nat) (l : List Nat), l.Nodup → (∀ x ∈ l, x < n) → l.length ≤ n
 | 0, l, _, h => by
  cases l with
  | nil => simp
  | cons x r => have := h x (by simp); omega
 | n + 1, l, hd, h => by
  by_cases hm : n ∈ l
  ·have := nodup_le n (l.erase n) (hd.erase n) (fun x hx => by
    have hx' := (List.Nodup.mem_erase_iff hd).1 hx
    have := h x hx'.2
    omega)
   rw [List.length_erase_of_mem hm] at this
   omega
  ·have := nodup_le n l hd (fun x hx => by
    have := h x hx
    have : x ≠ n := fun e => hm (e ▸ hx)
    omega)
   omega
def Went (T : List TD) (n : Nat) (L L' : List Nat) : Prop :=
 ∃ X, L' = L ++ X ∧ L'.Nodup ∧ n ∈ L' ∧ ∀ i ∈ X, i < T.length ∧ InT T n i ∧ ∀ t, T[i]? = some t → ∀ k : Nat, (k : Int) ∈ prtL t → k ∈ L'
def WentP (T : List TD) (n : Nat) (ps : List Int) (L L' : List Nat) : Prop :=
 ∃ X, L' = (L ++ [n]) ++ X ∧ L'.Nodup ∧ (∀ k : Nat, (k : Int) ∈ ps → k ∈ L') ∧ ∀ i ∈ X, i < T.length ∧ InT T n i ∧ ∀ t, T[i]? = some t → ∀ k : Nat, (k : Int) ∈ prtL t → k ∈ L'
def varAt (T : List TD) (i : Nat) : List Int := match T[i]? with
 | some t => if t.kind = 1 then [vnum t.n] else []
 | none => []
def varsOf (T : List TD) (L : List Nat) : List Int := L.flatMap (varAt T)
def U64 (x : Int) : Prop := 0 ≤ x ∧ x < 18446744073709551616
end
section
open Go.RowKit
def RowL (w : World) (base : Nat) (e : TypeId) (size : Nat) (v : Value) (n : Nat) (xs : List Value) : Prop :=
 xs.length = n * size ∧ ((v = .slice none 0 0 ∧ n = 0) ∨ ∃ g cap cur, v = .slice (some ⟨g, 0, none⟩) n cap ∧ base ≤ g ∧ w.heap[g]? = some (.cells cur e (0, 0)) ∧ n ≤ cap ∧ cur.toList.take (n * size) = xs ∧ n * size ≤ cur.size)
section
variable {w w' : World} {base : Nat} {e : TypeId} {size : Nat} {v : Value} {n : Nat} {xs : List Value}
theorem RowL.of_own (h : w.ownsRow base e size v n xs) : RowL w base e size v n xs := by
 refine ⟨h.1, ?_⟩
 rcases h.2 with h | ⟨g, cap, cur, h1, h2, h3, h4, _, h6, h7⟩
 ·exact .inl h
 ·exact .inr ⟨g, cap, cur, h1, h2, h3, h4, h7, by rw [h6]; exact Nat.mul_le_mul_right _ h4⟩
theorem RowL.mono {b : Nat} (h : RowL w base e size v n xs) (hb : b ≤ base) : RowL w b e size v n xs := by
 refine ⟨h.1, ?_⟩
 rcases h.2 with h | ⟨g, cap, cur, h1, h2, h3⟩
 ·exact .inl h
 ·exact .inr ⟨g, cap, cur, h1, Nat.le_trans hb h2, h3⟩
theorem RowL.ge (h : RowL w base e size v n xs) : ∀ g, v.ownBlock = some g → base ≤ g ∧ g < w.heap.size := by
 intro g hg
 rcases h.2 with ⟨h, _⟩ | ⟨g', cap, cur, h1, h2, h3, _⟩
 ·rw [h] at hg; simp [Value.ownBlock] at hg
 ·rw [h1] at hg
  simp [Value.ownBlock] at hg
  subst hg
  exact ⟨h2, (Array.getElem?_eq_some_iff.1 h3).1⟩
theorem RowL.block_ (h : RowL w base e size v n xs) (hb : ∀ g, v.ownBlock = some g → w'.heap[g]? = w.heap[g]?) : RowL w' base e size v n xs := by
 refine ⟨h.1, ?_⟩
 rcases h.2 with h | ⟨g, cap, cur, h1, h2, h3, h4⟩
 ·exact .inl h
 ·exact .inr ⟨g, cap, cur, h1, h2, by rw [hb g (by rw [h1]; rfl)]; exact h3, h4⟩
theorem RowL.grown (h : RowL w base e size v n xs) {row : Option Nat} (hg : w.grownBy w' row) (hne : v.ownBlock = none ∨ v.ownBlock ≠ row) : RowL w' base e size v n xs :=
 h.block_ fun g hv => hg.block g (h.ge g hv).2 (fun e => by
  rcases hne with hn | hn
  ·rw [hn] at hv; cases hv
  ·exact hn (by rw [hv, e]))
theorem RowL.below (h : RowL w base e size v n xs) (hb : Below w.heap.size w w') : RowL w' base e size v n xs := h.block_ fun g hv => hb.block g (h.ge g hv).2
theorem RowL.slice (h : RowL w base e size v n xs) : ∃ A c, v = .slice A n c ∧ n ≤ c ∧ Reads w w.heap.size size A n xs := by
 rcases h.2 with ⟨rfl, rfl⟩ | ⟨g, cap, cur, rfl, h2, h3, h4, h5, h6⟩
 ·exact ⟨none, 0, rfl, Nat.le_refl _, h.1, fun h => absurd h (by omega)⟩
 ·refine ⟨_, cap, rfl, h4, h.1, fun hn => ⟨_, rfl, (Array.getElem?_eq_some_iff.1 h3).1, fun j u hu => ?_⟩⟩
  have hj : j < n * size := by have := (List.getElem?_eq_some_iff.1 hu).1; rw [h.1] at this; exact this
  rw [show (⟨g, 0, none⟩ : Addr).add j = ⟨g, j, none⟩ from by unfold Addr.add; split <;> simp_all, cell_of_row w g j cur e (0, 0) h3]
  rw [← h5, List.getElem?_take, if_pos hj] at hu
  simpa using hu
theorem RowL.form (h : RowL w base e size v n xs) (hn : 0 < n) : ∃ g cap, v = .slice (some ⟨g, 0, none⟩) n cap ∧ n ≤ cap ∧ base ≤ g ∧ g < w.heap.size := by
 rcases h.2 with ⟨_, h0⟩ | ⟨g, cap, cur, h1, h2, h3, h4, _⟩
 ·omega
 ·exact ⟨g, cap, h1, h4, h2, (Array.getElem?_eq_some_iff.1 h3).1⟩
theorem RowL.cell {g cap : Nat} (h : RowL w base e size (.slice (some ⟨g, 0, none⟩) n cap) n xs) (j : Nat) (hj : j < n * size) : w.cell? ⟨g, j, none⟩ = xs[j]? := by
 rcases h.2 with ⟨h', _⟩ | ⟨g', cap', cur, h1, h2, h3, h4, h5, h6⟩
 ·simp at h'
 ·simp only [Value.slice.injEq, Option.some.injEq, Addr.mk.injEq, and_true, true_and] at h1
  obtain ⟨rfl, rfl⟩ := h1
  rw [cell_of_row w g j cur e (0, 0) h3, ← h5, List.getElem?_take, if_pos hj]
  simp
theorem RowL.frozen {g cap : Nat} (h : RowL w base e size (.slice (some ⟨g, 0, none⟩) n cap) n xs) (j : Nat) : w.frozen? ⟨g, j, none⟩ = false := by
 rcases h.2 with ⟨h', _⟩ | ⟨g', cap', cur, h1, h2, h3, h4, h5, h6⟩
 ·simp at h'
 ·simp only [Value.slice.injEq, Option.some.injEq, Addr.mk.injEq, and_true, true_and] at h1
  obtain ⟨rfl, rfl⟩ := h1
  exact frozen_of_row w g j cur e h3
theorem RowL.stored {g cap : Nat} (h : RowL w base e size (.slice (some ⟨g, 0, none⟩) n cap) n xs) (j : Nat) (u : Value) :
  RowL (w.setCell ⟨g, j, none⟩ u) base e size (.slice (some ⟨g, 0, none⟩) n cap) n (xs.set j u) ∧ w.grownBy (w.setCell ⟨g, j, none⟩ u) (some g) := by
 rcases h.2 with ⟨h', _⟩ | ⟨g', cap', cur, h1, h2, h3, h4, h5, h6⟩
 ·simp at h'
 ·simp only [Value.slice.injEq, Option.some.injEq, Addr.mk.injEq, and_true, true_and] at h1
  obtain ⟨rfl, rfl⟩ := h1
  refine ⟨⟨by simpa using h.1, .inr ⟨g, cap, cur.setIfInBounds j u, rfl, h2, heap_setCell_same w g j cur e u h3, h4, ?_, by simpa using h6⟩⟩,
   ⟨rfl, rfl, rfl, by simp, fun k _ hk => heap_setCell_other w ⟨g, j, none⟩ k u (fun e => hk (by simp [e]))⟩⟩
  rw [Array.toList_setIfInBounds, ← h5, List.take_set]
end
end
section
open Go.RowKit
def Stamped (w : World) (b : Nat) : Prop := ∃ es clock, w.heap[b]? = some (.map es clock) ∧ ∀ e ∈ es.toList, e.born < clock
section
variable {κ : Type} [DecidableEq κ] {P : Program} {k : TypeId} {enc : κ → Value} {V : κ → Prop} {w w' : World} {b n : Nat} {f : κ → Option Value}
omit [DecidableEq κ] in
theorem Stamped.new (w : World) : Stamped (w.alloc (.map #[] 0)) w.heap.size := ⟨#[], 0, (MapKept.heap_alloc w _).1, by simp⟩
omit [DecidableEq κ] in
theorem Stamped.block_ (h : Stamped w b) (hb : w'.heap[b]? = w.heap[b]?) : Stamped w' b := by
 obtain ⟨es, c, h1, h2⟩ := h
 exact ⟨es, c, hb.trans h1, h2⟩
theorem MapIs.entry {t e : TypeId} (h : MapIs P k enc V w b n f) (hst : Stamped w b) (E : KeyEnc P k enc V) (ht : P.underlying t = some (.map k e)) (z : Value) (hz : ∀ w, (zeroValue e).run P w = .ok z w) (x : κ) (hx : V x) (hf : f x = none) :
  ∃ (c : Nat) (w1 : World), (Instr.mapEntry t (.map (some b)) (enc x)).run P w = .ok (.tuple #[z, goInt c]) w1 ∧ w.grownBy w1 (some b) ∧
   ∀ val, ∃ w2, (Instr.entryStore t (.map (some b)) (goInt c) val).run P w1 = .ok () w2 ∧ MapIs P k enc V w2 b (n + 1) (putF f x val) ∧ Stamped w2 b ∧ w.grownBy w2 (some b) := by
 obtain ⟨es, clock, hb, hs, hd, hv, hk⟩ := h
 obtain ⟨es', clock', hb', hlt⟩ := hst
 rw [hb] at hb'
 injection hb' with hb'
 injection hb' with h1 h2
 subst h1 h2
 obtain ⟨l, hl⟩ := E.reads x hx
 have hgr : ∀ o, w.grownBy (ChangeMaps.setBlock w b o) (some b) := fun o => ⟨rfl, rfl, rfl, by simp [ChangeMaps.setBlock], fun i _ hi => ChangeMaps.heap_setBlock_other hb _ (fun e => hi (by rw [e]))⟩
 rcases E.keyed.find w hl es.toList (MapIs.keys E hv) with ⟨h1, h2⟩ | ⟨j, e0, h1, h2, h3⟩
 ·refine ⟨clock, ChangeMaps.setBlock w b (.map (es.push ⟨enc x, z, clock⟩) (clock + 1)), by simp [Instr.mapEntry, run_underlying ht, MapKept.run_getObj_map hb, E.keyed.check w false hl, h1, hz, MapKept.run_setObj_map _ hb, Result.andThen, ChangeMaps.setBlock], hgr _, fun val => ?_⟩
  have hw2 := ChangeMaps.heap_setBlock_same hb (.map (es.push ⟨enc x, z, clock⟩) (clock + 1))
  have hidx : (es.push ⟨enc x, z, clock⟩).findIdx? (fun e => ((e.born : Nat) : Int) == ((clock : Nat) : Int)) = some es.size := by
   rw [Go.WideElems.findIdx_arr, Array.toList_push, List.findIdx?_append]
   have h0 : es.toList.findIdx? (fun e => ((e.born : Nat) : Int) == ((clock : Nat) : Int)) = none := by
    rw [List.findIdx?_eq_none_iff]
    intro e he
    have := hlt e he
    simp
    omega
   rw [h0]
   simp
  have hmod : (es.push ⟨enc x, z, clock⟩).modify es.size (fun e => { e with val := val }) = es.push ⟨enc x, val, clock⟩ := by
   apply Array.ext'
   rw [Array.toList_modify, Array.toList_push, Array.toList_push, ← Array.length_toList, Go.WideElems.modify_last]
  have hsb : ∀ o o', ChangeMaps.setBlock (ChangeMaps.setBlock w b o) b o' = ChangeMaps.setBlock w b o' := by
   intro o o'
   simp [ChangeMaps.setBlock]
  refine ⟨ChangeMaps.setBlock w b (.map (es.push ⟨enc x, val, clock⟩) (clock + 1)), ?_, ⟨es.push ⟨enc x, val, clock⟩, clock + 1, ChangeMaps.heap_setBlock_same hb _, by simp; omega, ?_, ?_, ?_⟩, ⟨es.push ⟨enc x, val, clock⟩, clock + 1, ChangeMaps.heap_setBlock_same hb _, ?_⟩, hgr _⟩
  ·simp [Instr.entryStore, MapKept.run_getObj_map hw2, asInt, asIntOf, goInt, hidx, hmod, MapKept.run_setObj_map _ hw2, Result.andThen]
   exact hsb _ _
  ·simp only [Array.toList_push, List.map_append, List.map_cons, List.map_nil]
   refine List.nodup_append.2 ⟨hd, by simp, ?_⟩
   intro a ha c hc
   simp at hc
   subst hc
   obtain ⟨e1, he1, rfl⟩ := List.mem_map.1 ha
   exact h2 e1 he1
  ·intro e1 he1
   simp only [Array.toList_push, List.mem_append, List.mem_singleton] at he1
   rcases he1 with he1 | rfl
   ·obtain ⟨y, hy, hke, hfy⟩ := hv e1 he1
    refine ⟨y, hy, hke, ?_⟩
    unfold putF
    rw [if_neg (fun e => h2 e1 he1 (by rw [hke, e])), hfy]
   ·exact ⟨x, hx, rfl, by simp [putF]⟩
  ·intro y u hy
   unfold putF at hy
   simp only [Array.toList_push, List.mem_append, List.mem_singleton]
   by_cases hyx : y = x
   ·exact ⟨hyx ▸ hx, _, .inr rfl, by rw [hyx]⟩
   ·rw [if_neg hyx] at hy
    obtain ⟨hy0, e1, he1, hk1⟩ := hk y u hy
    exact ⟨hy0, e1, .inl he1, hk1⟩
  ·intro e1 he1
   simp only [Array.toList_push, List.mem_append, List.mem_singleton] at he1
   rcases he1 with he1 | rfl
   ·have := hlt e1 he1
    omega
   ·dsimp only
    omega
 ·exfalso
  have hm0 : e0 ∈ es.toList := List.mem_of_getElem? h2
  obtain ⟨y, hy, hke, hfy⟩ := hv e0 hm0
  have hxy : x = y := E.inj x y hx hy (h3 ▸ hke)
  subst hxy
  rw [hf] at hfy
  cases hfy
end
end
section
open Go.RowKit
section
variable {P : Program}
theorem wpQuiet_load {ops : Array Oper} {rest : List Oper} {o : Oper} {a : Act} {W : World} {Q : Act → Prop} (hgd : o.guard = none) (ty : TypeId) (x : Operand) (ho : o.op = .load ty x)
  (ad : Addr) (hx : a.eval x = .pointer (some ad)) (cs : List Value) (d : TypeDesc) (hc : ∀ j u, cs[j]? = some u → W.cell? (ad.add j) = some u)
  (hu : P.underlying ty = some d) (hd : aggD d = true) (hi : (P.info? ty).map (·.size) = some cs.length)
  (h : wpQuiet P ops (fun w' => ∃ n, w' = W.drewN n) Q rest (a.put o.dst (.agg cs.toArray))) : wpQuiet P ops (fun w' => ∃ n, w' = W.drewN n) Q (o :: rest) a := by
 have hw : Region.wanted o (yielded ops a.tmps) = true := by simp [Region.wanted, hgd]
 unfold wpQuiet
 rw [if_pos hw]
 refine ⟨.agg cs.toArray, ?_, h⟩
 rintro w ⟨n, rfl⟩
 unfold Oper.quietAt execOp
 simp only [ho, hx, Instr.loadAt, Instr.sureAddr, Sem.run_bind, Sem.run_pure, Result.andThen_ok, run_loadVar_at (P := P) (W.drewN n) ad ty cs d hc hu hd hi]
 exact ⟨rfl, rfl⟩
end
end
section
section
variable {P : Program} {ops : Array Oper} {Q : Exit → Act → World → Prop} {md : Region.Mode} {T S : World → Prop} {late : List Nat}
def noneB (late : List Nat) (listed : Array Bool) : Bool := late.all fun j => !listed.getD j true
def St (T S : World → Prop) (late : List Nat) (listed : Array Bool) (w : World) : Prop := T w ∧ (noneB late listed = true → S w)
theorem St.both {listed : Array Bool} {w : World} (h1 : T w) (h2 : S w) : St T S late listed w := ⟨h1, fun _ => h2⟩
theorem bT {listed : Array Bool} {w : World} (h : Go.RowKit.Hid (T w)) : St T (fun _ => True) late listed w := ⟨h.out, fun _ => trivial⟩
theorem bS {listed : Array Bool} {w : World} (h : Go.RowKit.Hid (T w)) (k : Go.RowKit.Hid (S w)) : St T S late listed w := ⟨h.out, fun _ => k.out⟩
theorem St.after {listed : Array Bool} {w : World} (h1 : T w) (h2 : noneB late listed = false) : St T S late listed w := ⟨h1, fun h => by rw [h2] at h; cases h⟩
def wpAnyE (P : Program) (md : Region.Mode) (ops : Array Oper) (Q : Exit → Act → World → Prop) (T S : World → Prop) (late : List Nat) : Nat → Array Bool → Act → World → Prop
 | 0, listed, a, w => Region.ready md ops listed = [] ∧ Q .normal a w
 | fuel + 1, listed, a, w =>
  (Region.ready md ops listed = [] → Q .normal a w) ∧
  ∀ i ∈ Region.ready md ops listed, wpOp P ops Q i (fun a' w' => St T S late (listed.setIfInBounds i true) w' ∧ wpAnyE P md ops Q T S late fuel (listed.setIfInBounds i true) a' w') a w
theorem wpAny_of_E : ∀ (fuel : Nat) (listed : Array Bool) (a : Act) (w : World), wpAnyE P md ops Q T S late fuel listed a w → wpAny P md ops Q fuel listed a w
 | 0, _, _, _, h => h
 | fuel + 1, _, _, _, h => ⟨h.1, fun i hi => wpOp_mono (fun a' w' h' => wpAny_of_E fuel _ a' w' h'.2) (h.2 i hi)⟩
def lateB (md : Region.Mode) (ops : Array Oper) (late : List Nat) (i : Nat) : Bool :=
 late.all fun j => match ops[j]? with
  | some oj => oj.after.any (fun e => Region.binds md e && (e.on == i || late.contains e.on))
  | none => true
theorem early {i j : Nat} {listed : Array Bool} (hl : lateB md ops late i = true) (hn : noneB late listed = true) (hi : listed.getD i true = false) (hj : j ∈ Region.ready md ops listed) : late.contains j = false := by
 cases hc : late.contains j
 ·rfl
 ·exfalso
  unfold lateB at hl
  simp only [List.all_eq_true] at hl
  obtain ⟨_, oj, hoj, hall⟩ := mem_ready.1 hj
  have h1 := hl j (by simpa using hc)
  rw [hoj] at h1
  obtain ⟨e, he, hb⟩ := Array.any_eq_true'.1 h1
  simp only [Bool.and_eq_true, Bool.or_eq_true, beq_iff_eq] at hb
  have h2 := hall e he hb.1
  rcases hb.2 with q | q
  ·rw [q] at h2
   rcases Nat.lt_or_ge i listed.size with h' | h'
   ·simp [h'] at h2 hi; rw [hi] at h2; cases h2
   ·simp [Array.getElem?_eq_none h'] at h2
  ·unfold noneB at hn
   rw [List.all_eq_true] at hn
   have := hn e.on (by simpa using q)
   rcases Nat.lt_or_ge e.on listed.size with h' | h'
   ·simp [h'] at h2 this; rw [h2] at this; cases this
   ·simp [Array.getElem?_eq_none h'] at h2
theorem none_set {j : Nat} {listed : Array Bool} (hn : noneB late listed = true) (hc : late.contains j = false) : noneB late (listed.setIfInBounds j true) = true := by
 unfold noneB at *
 rw [List.all_eq_true] at *
 intro k hk
 have hne : j ≠ k := by
  rintro rfl
  have : late.contains j = true := by simpa using hk
  rw [this] at hc
  cases hc
 rw [getD_set_ne true hne]
 exact hn k hk
theorem none_less {j : Nat} {listed : Array Bool} (hn : noneB late (listed.setIfInBounds j true) = true) : noneB late listed = true := by
 unfold noneB at *
 rw [List.all_eq_true] at *
 intro k hk
 have := hn k hk
 cases hg : listed.getD k true
 ·rfl
 ·by_cases hjk : j = k
  ·subst hjk
   rcases Nat.lt_or_ge j listed.size with h' | h'
   ·rw [Array.getD_eq_getD_getElem?, Array.getElem?_setIfInBounds_self_of_lt h'] at this
    cases this
   ·rw [Array.setIfInBounds_eq_of_size_le h', hg] at this
    cases this
  ·rw [getD_set_ne true hjk, hg] at this
   cases this
def okE (md : Region.Mode) (ops : Array Oper) (late : List Nat) (listed : Array Bool) (i : Nat) (b : Bool) : Bool := !b || (lateB md ops late i && noneB late listed)
def SS (T S : World → Prop) (b : Bool) (w : World) : Prop := T w ∧ (b = true → S w)
theorem wpAnyE_first {i : Nat} {oi : Oper} {v : Value} (b : Bool) (hil : late.contains i = false) (hi : ops[i]? = some oi) (hsel : ∀ (j : Nat) (o : Oper) cs b, ops[j]? = some o → o.op ≠ .select cs b)
  (hQ : ∀ c a w, Q (.panic c) (a.put oi.dst v) w → Q (.panic c) a w) :
  ∀ (fuel : Nat) (listed : Array Bool) (a : Act) (w : World),
   (∀ j oj, ops[j]? = some oj → j ≠ i → listed.getD j true = false → (∀ e ∈ oj.after, Region.binds md e = true → e.on ≠ i) → oi.apart ops oj = true) →
   (b = true → lateB md ops late i = true ∧ noneB late listed = true) → i ∈ Region.ready md ops listed → YieldsIf P ops (SS T S b) oi v a → St T S late listed w →
   wpAnyE P md ops Q T S late fuel (listed.setIfInBounds i true) (a.put oi.dst v) w → wpAnyE P md ops Q T S late (fuel + 1) listed a w := by
 intro fuel
 induction fuel with
 | zero =>
  intro listed a w _ hb hr hy hS H
  refine ⟨fun h => (by rw [h] at hr; cases hr), fun j hj => ?_⟩
  by_cases hji : j = i
  ·subst hji; exact hy.wpOp hi ⟨hS.1, fun q => hS.2 (hb q).2⟩ ⟨⟨hS.1, fun q => hS.2 (none_less q)⟩, H⟩
  ·have := ready_mono hj hji
   rw [H.1] at this
   cases this
 | succ fuel ih =>
  intro listed a w hfree hb hr hy hS H
  refine ⟨fun h => (by rw [h] at hr; cases hr), fun j hj => ?_⟩
  by_cases hji : j = i
  ·subst hji; exact hy.wpOp hi ⟨hS.1, fun q => hS.2 (hb q).2⟩ ⟨⟨hS.1, fun q => hS.2 (none_less q)⟩, H⟩
  ·have h1 := H.2 j (ready_mono hj hji)
   obtain ⟨hjun, oj, hoj, hall⟩ := mem_ready.1 hj
   have hiu := (mem_ready.1 hr).1
   have hnot : ∀ e ∈ oj.after, Region.binds md e = true → e.on ≠ i := fun e he hb heq => by
    have h1 := hall e he hb
    have h0 := hiu
    rw [heq] at h1
    rcases Nat.lt_or_ge i listed.size with h' | h'
    ·simp [h'] at h0 h1; rw [h0] at h1; cases h1
    ·simp [Array.getElem?_eq_none h'] at h1
   have h2 := wpOp_putIf hoj (hfree j oj hoj hji hjun hnot) (fun cs b => hsel i oi cs b hi) (fun cs b => hsel j oj cs b hoj) hQ hy h1
   have hfree' : ∀ k ok, ops[k]? = some ok → k ≠ i → (listed.setIfInBounds j true).getD k true = false →
     (∀ e ∈ ok.after, Region.binds md e = true → e.on ≠ i) → oi.apart ops ok = true := fun k ok hk hki hun hno => by
    refine hfree k ok hk hki ?_ hno
    by_cases hjk : j = k
    ·subst hjk; exact hjun
    ·rw [getD_set_ne true hjk] at hun; exact hun
   refine wpOp_mono (fun a' w' h3 => ?_) h2
   have h4 : St T S late (listed.setIfInBounds j true) w' := ⟨h3.2.1.1, fun q => h3.2.1.2 (by
    rw [Array.setIfInBounds_comm _ _ (Ne.symm hji)]
    exact none_set q hil)⟩
   refine ⟨h4, ih (listed.setIfInBounds j true) a' w' hfree' (fun q => ⟨(hb q).1, none_set (hb q).2 (early (hb q).1 (hb q).2 hiu hj)⟩) (ready_mono hr (Ne.symm hji)) h3.1 h4 ?_⟩
   rw [Array.setIfInBounds_comm _ _ hji]
   exact h3.2.2
def opAt (ops : Array Oper) (i : Nat) : Option (Option Tmp × Op) := (ops[i]?).map fun o => (o.dst, o.op)
def wantAt (ops : Array Oper) (i : Nat) (a : Act) : Option Bool := (ops[i]?).map fun o => Region.wanted o (yielded ops a.tmps)
def checkE (md : Region.Mode) (ops : Array Oper) (late : List Nat) (listed : Array Bool) (i : Nat) (b : Bool) : Bool :=
 Region.noSelect ops && (Region.free md ops listed i && ((Region.ready md ops listed).contains i && (!late.contains i && (!b || (lateB md ops late i && noneB late listed)))))
theorem opAt_inv {i : Nat} {d : Option Tmp} {op : Op} (h : opAt ops i = some (d, op)) : ∃ o, ops[i]? = some o ∧ o.dst = d ∧ o.op = op := by
 unfold opAt at h
 cases e : ops[i]? with
 | none => rw [e] at h; cases h
 | some o =>
  rw [e] at h
  injection h with h
  injection h with h1 h2
  exact ⟨o, rfl, h1, h2⟩
theorem wantAt_inv {i : Nat} {a : Act} {b : Bool} {o : Oper} (h : wantAt ops i a = some b) (ho : ops[i]? = some o) : Region.wanted o (yielded ops a.tmps) = b := by
 unfold wantAt at h
 rw [ho] at h
 injection h
section
variable {fuel : Nat} {listed : Array Bool} {a : Act} {w : World}
theorem wpAnyE_take (b : Bool) {i : Nat} {oi : Oper} {v : Value} (hi : ops[i]? = some oi) (hc : checkE md ops late listed i b = true) (hQ : ∀ c a w, Q (.panic c) (a.put oi.dst v) w → Q (.panic c) a w) (hy : YieldsIf P ops (SS T S b) oi v a) (hS : St T S late listed w)
  (h : wpAnyE P md ops Q T S late fuel (listed.setIfInBounds i true) (a.put oi.dst v) w) : wpAnyE P md ops Q T S late (fuel + 1) listed a w := by
 unfold checkE at hc
 simp only [Bool.and_eq_true, Bool.or_eq_true, Bool.not_eq_true'] at hc
 obtain ⟨h1, h2, h3, h4, h5⟩ := hc
 exact wpAnyE_first b h4 hi (Region.noSelect_spec h1) hQ fuel listed a w (Region.free_spec hi h2) (fun q => by
  rcases h5 with h5 | h5
  ·rw [q] at h5; cases h5
  ·exact h5) (by simpa using h3) hy hS h
theorem E_any (b : Bool) (i : Nat) (d : Option Tmp) (op : Op) (v : Value) (ho : opAt ops i = some (d, op)) (hc : checkE md ops late listed i b = true) (hw : wantAt ops i a = some true) (hQ : ∀ c a w, Q (.panic c) (a.put d v) w → Q (.panic c) a w)
  (hy : ∀ o : Oper, o.op = op → ∀ w, SS T S b w → (execOp a.eval o).run P w = .ok (.value v) w) (hS : St T S late listed w) (h : wpAnyE P md ops Q T S late fuel (listed.setIfInBounds i true) (a.put d v) w) : wpAnyE P md ops Q T S late (fuel + 1) listed a w := by
 obtain ⟨o, h1, h2, h3⟩ := opAt_inv ho
 subst h2
 exact wpAnyE_take b h1 hc hQ (.inl ⟨wantAt_inv hw h1, hy o h3⟩) hS h
theorem E_not (i : Nat) (d : Option Tmp) (op : Op) (ho : opAt ops i = some (d, op)) (hc : checkE md ops late listed i false = true) (hw : wantAt ops i a = some false) (hQ : ∀ c a w, Q (.panic c) (a.put d undef) w → Q (.panic c) a w)
  (hS : St T S late listed w) (h : wpAnyE P md ops Q T S late fuel (listed.setIfInBounds i true) (a.put d undef) w) : wpAnyE P md ops Q T S late (fuel + 1) listed a w := by
 obtain ⟨o, h1, h2, h3⟩ := opAt_inv ho
 subst h2
 exact wpAnyE_take false h1 hc hQ (.inr ⟨wantAt_inv hw h1, rfl⟩) hS h
theorem E_move (i : Nat) (d : Option Tmp) (x : Operand) (v : Value) (ho : opAt ops i = some (d, .move x)) (hc : checkE md ops late listed i false = true) (hw : wantAt ops i a = some true) (hQ : ∀ c a w, Q (.panic c) (a.put d v) w → Q (.panic c) a w)
  (hx : a.eval x = v) (hS : St T S late listed w) (h : wpAnyE P md ops Q T S late fuel (listed.setIfInBounds i true) (a.put d v) w) : wpAnyE P md ops Q T S late (fuel + 1) listed a w :=
 E_any false i d _ v ho hc hw hQ (fun o e w _ => by rw [BigFrame.run_move x e, hx]) hS h
theorem E_pick (i : Nat) (d : Option Tmp) (c x y : Operand) (b : Bool) (v : Value) (ho : opAt ops i = some (d, .pick c x y)) (hc : checkE md ops late listed i false = true) (hw : wantAt ops i a = some true) (hQ : ∀ c a w, Q (.panic c) (a.put d v) w → Q (.panic c) a w)
  (hb : a.eval c = .bool b) (hv : (if b then a.eval x else a.eval y) = v) (hS : St T S late listed w) (h : wpAnyE P md ops Q T S late fuel (listed.setIfInBounds i true) (a.put d v) w) : wpAnyE P md ops Q T S late (fuel + 1) listed a w :=
 E_any false i d _ v ho hc hw hQ (fun o e w _ => by
  unfold execOp
  subst hv
  cases b <;> simp [e, hb, asBool]) hS h
theorem E_nil (i : Nat) (d : Option Tmp) (x : Operand) (ad : Addr) (ho : opAt ops i = some (d, .nilCheck x)) (hc : checkE md ops late listed i false = true) (hw : wantAt ops i a = some true) (hQ : ∀ c a w, Q (.panic c) (a.put d (.pointer (some ad))) w → Q (.panic c) a w)
  (hx : a.eval x = .pointer (some ad)) (hS : St T S late listed w) (h : wpAnyE P md ops Q T S late fuel (listed.setIfInBounds i true) (a.put d (.pointer (some ad))) w) : wpAnyE P md ops Q T S late (fuel + 1) listed a w :=
 E_any false i d _ _ ho hc hw hQ (fun o e w _ => by unfold execOp; simp [e, hx]) hS h
def StepE (P : Program) (md : Region.Mode) (ops : Array Oper) (Q : Exit → Act → World → Prop) (T S : World → Prop) (late : List Nat) (fuel : Nat) (listed : Array Bool) (a : Act) (w : World) (i : Nat) : Prop :=
 wpOp P ops Q i (fun a' w' => St T S late (listed.setIfInBounds i true) w' ∧ wpAnyE P md ops Q T S late fuel (listed.setIfInBounds i true) a' w') a w
theorem E_one (i : Nat) (hr : Region.ready md ops listed = [i]) (h : StepE P md ops Q T S late fuel listed a w i) : wpAnyE P md ops Q T S late (fuel + 1) listed a w :=
 ⟨fun h0 => (by rw [hr] at h0; cases h0), fun j hj => (by rw [hr] at hj; simp at hj; subst hj; exact h)⟩
theorem E_two (i j : Nat) (hr : Region.ready md ops listed = [i, j]) (h : StepE P md ops Q T S late fuel listed a w i) (h2 : StepE P md ops Q T S late fuel listed a w j) : wpAnyE P md ops Q T S late (fuel + 1) listed a w :=
 ⟨fun h0 => (by rw [hr] at h0; cases h0), fun k hk => (by
  rw [hr] at hk
  simp at hk
  rcases hk with rfl | rfl
  ·exact h
  ·exact h2)⟩
theorem StepE.of (i : Nat) (d : Option Tmp) (op : Op) (ho : opAt ops i = some (d, op)) (hw : wantAt ops i a = some true)
  (h : ∀ (o : Oper) (K : Act → World → Prop), o.dst = d → o.op = op → (∀ a w, St T S late (listed.setIfInBounds i true) w → wpAnyE P md ops Q T S late fuel (listed.setIfInBounds i true) a w → K a w) → Oper.wp P o a w K Q) : StepE P md ops Q T S late fuel listed a w i := by
 obtain ⟨o, h1, h2, h3⟩ := opAt_inv ho
 exact wpOp_step h1 fun K hK => by
  rw [if_pos (wantAt_inv hw h1)]
  exact h o K h2 h3 fun a w hS hW => hK a w ⟨hS, hW⟩
theorem StepE.run (i : Nat) (d : Option Tmp) (op : Op) (v : Value) (w1 : World) (ho : opAt ops i = some (d, op)) (hw : wantAt ops i a = some true) (hy : ∀ o : Oper, o.op = op → (execOp a.eval o).run P w = .ok (.value v) w1)
  (hS : St T S late (listed.setIfInBounds i true) w1) (h : wpAnyE P md ops Q T S late fuel (listed.setIfInBounds i true) (a.put d v) w1) : StepE P md ops Q T S late fuel listed a w i :=
 StepE.of i d op ho hw fun o K h2 h3 hK => by
  unfold Oper.wp
  rw [hy o h3, Oper.upon_value, h2]
  exact hK _ _ hS h
theorem StepE.skip (i : Nat) (op : Op) (w1 : World) (ho : opAt ops i = some (none, op)) (hw : wantAt ops i a = some true) (hy : ∀ o : Oper, o.op = op → (execOp a.eval o).run P w = .ok .skip w1)
  (hS : St T S late (listed.setIfInBounds i true) w1) (h : wpAnyE P md ops Q T S late fuel (listed.setIfInBounds i true) (a.put none undef) w1) : StepE P md ops Q T S late fuel listed a w i :=
 StepE.of i none op ho hw fun o K h2 h3 hK => by
  unfold Oper.wp
  rw [hy o h3, Oper.upon_skip, h2]
  exact hK _ _ hS h
theorem StepE.assign (i : Nat) (d : Option Tmp) (x : Operand) (v : Value) (ho : opAt ops i = some (d, .assign x)) (hw : wantAt ops i a = some true) (hx : a.eval x = v)
  (hS : St T S late (listed.setIfInBounds i true) w) (h : wpAnyE P md ops Q T S late fuel (listed.setIfInBounds i true) (a.put d v) w) : StepE P md ops Q T S late fuel listed a w i :=
 StepE.run i d _ v w ho hw (fun o e => by rw [BigFrame.run_assign x e, hx]) hS h
end
theorem wpAnyE_done {listed : Array Bool} {a : Act} {w : World} (hr : Region.ready md ops listed = []) (h : Q .normal a w) : ∀ fuel, wpAnyE P md ops Q T S late fuel listed a w
 | 0 => ⟨hr, h⟩
 | _ + 1 => ⟨fun _ => h, by rw [hr]; simp⟩
theorem wp_region_E (T S : World → Prop) (late : List Nat) {id : Nat} {a : Act} {w : World} (hm : P.follows .mixedOrders = true)
  (h : wpAnyE P .any ops Q T S late ops.size (Array.replicate ops.size false) a w.drew) : (Code.region id ops true).wp P Q a w :=
 wp_region_any hm (wpAny_of_E _ _ _ _ h)
end
end
section
open Go.RowKit
section
variable {P : Program}
theorem wpList_store_new {ops : Array Oper} {rest : List Oper} {o : Oper} {a : Act} {w : World} {Q : Exit → Act → World → Prop} (hgd : o.guard = none) (ty : TypeId) (x y : Operand) (ho : o.op = .store ty x y)
  (cs : Array Value) (vs : List Value) (v : Value) (hx : a.eval x = .pointer (some ⟨w.heap.size, 0, none⟩)) (hy : a.eval y = v) (hv : v.cells = vs.toArray) (hi : (P.info? ty).map (·.size) = some vs.length)
  (hl : cs.size = vs.length) (h1 : ∀ u ∈ vs, u.oneCell' = true)
  (h : ∀ w', Blk w' w.heap.size ty vs.toArray → Below w.heap.size w w' → w'.heap.size = w.heap.size + 1 → wpList P ops Q rest (a.put o.dst undef) w') : wpList P ops Q (o :: rest) a (w.alloc (.cells cs ty)) := by
 refine wpList_store_at hgd ty x y ho w.heap.size 0 ty cs.toList vs v (by simpa using Blk.new w ty cs) hx hy hv hi (by simp [hl]) h1 fun w' hB hg hs => ?_
 have he : overC cs.toList 0 vs = vs := by
  unfold overC
  rw [List.take_zero, List.nil_append, Nat.zero_add, List.drop_of_length_le (by simp [hl]), List.append_nil]
 rw [he] at hB
 exact h w' hB (((Below.refl _ _).alloc (Nat.le_refl _) _).grown hg (le_alloc _ (Nat.le_refl _)) (fun g e => by injection e with e; omega)) (by simpa using hs)
end
end
end Go.Proofs.YtepagfkkjlbipaaGreat
