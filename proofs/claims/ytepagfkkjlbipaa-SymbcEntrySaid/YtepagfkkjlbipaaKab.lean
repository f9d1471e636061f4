/-
  Plain words on the variables within a term. Conditions: those written in each statement.
  A map that the call itself has made, as a function of plain keys: made, read, written. Conditions: those written in each statement.
  Structs and arrays of integers as keys of a map. Conditions: those written in each statement.
  Aggregates of several cells: loaded from a row's middle, laid into a new variable, read at an index. Conditions: those written in each statement.
-/
import Derived.Test.YtepagfkkjlbipaaKaa
import Derived.Maps.Own
import Derived.Maps.OwnOps
import Derived.DeepKeys5
section
namespace Go.Proofs.Ytepagfkkjlbipaa
set_option linter.unusedVariables false
set_option linter.unusedSimpArgs false
inductive InT (T : List TD) : Nat → Nat → Prop
  | self (n : Nat) : InT T n n
  | part (n k i : Nat) (t : TD) (ht : T[n]? = some t) (hk : (k : Int) ∈ prtL t) (h : InT T k i) : InT T n i
def vnum (n : Int) : Int := IntKind.i64.wrap n
def IsV (T : List TD) (n : Nat) (v : Int) : Prop := ∃ (i : Nat) (t : TD), InT T n i ∧ T[i]? = some t ∧ t.kind = 1 ∧ vnum t.n = v
def IsVars (T : List TD) (n : Nat) (l : List Int) : Prop := l.Pairwise (· < ·) ∧ ∀ v, v ∈ l ↔ IsV T n v
theorem sorted_ext : ∀ (l m : List Int), l.Pairwise (· < ·) → m.Pairwise (· < ·) → (∀ v, v ∈ l ↔ v ∈ m) → l = m
  | [], [], _, _, _ => rfl
  | [], y :: m, _, _, h => absurd ((h y).2 (by simp)) (by simp)
  | x :: l, [], _, _, h => absurd ((h x).1 (by simp)) (by simp)
  | x :: l, y :: m, hl, hm, h => by
    rw [List.pairwise_cons] at hl hm
    have hxy : x = y := by
      have h1 := (h x).1 (by simp)
      have h2 := (h y).2 (by simp)
      rw [List.mem_cons] at h1 h2
      rcases h1 with e | e
      · exact e
      · rcases h2 with e2 | e2
        · exact e2.symm
        · have := hl.1 _ e2
          have := hm.1 _ e
          omega
    subst hxy
    rw [sorted_ext l m hl.2 hm.2 (fun v => ?_)]
    have hv := h v
    rw [List.mem_cons, List.mem_cons] at hv
    constructor
    · intro q
      rcases hv.1 (.inr q) with e | e
      · have := hl.1 v q; omega
      · exact e
    · intro q
      rcases hv.2 (.inr q) with e | e
      · have := hm.1 v q; omega
      · exact e
theorem IsVars.uniq {T : List TD} {n : Nat} {l m : List Int} (hl : IsVars T n l) (hm : IsVars T n m) : l = m :=
  sorted_ext l m hl.1 hm.1 fun v => (hl.2 v).trans (hm.2 v).symm
theorem InT.inv {T : List TD} {n i : Nat} {t : TD} (ht : T[n]? = some t) (h : InT T n i) : i = n ∨ ∃ k : Nat, (k : Int) ∈ prtL t ∧ InT T k i := by
  cases h with
  | self => exact .inl rfl
  | part _ k _ t' ht' hk h =>
    rw [ht] at ht'
    injection ht' with e
    subst e
    exact .inr ⟨k, hk, h⟩
theorem IsV.parts {T : List TD} {n : Nat} {t : TD} (ht : T[n]? = some t) (hk : t.kind ≠ 1) (v : Int) : IsV T n v ↔ ∃ k : Nat, (k : Int) ∈ prtL t ∧ IsV T k v := by
  constructor
  · rintro ⟨i, u, hi, hu, ku, hv⟩
    rcases hi.inv ht with rfl | ⟨k, hk', hi'⟩
    · rw [ht] at hu
      injection hu with e
      subst e
      exact absurd ku hk
    · exact ⟨k, hk', i, u, hi', hu, ku, hv⟩
  · rintro ⟨k, hk', i, u, hi, hu, ku, hv⟩
    exact ⟨i, u, .part n k i t ht hk' hi, hu, ku, hv⟩
theorem IsV.var {T : List TD} {n : Nat} {t : TD} (ht : T[n]? = some t) (hk : t.kind = 1) (v : Int) : IsV T n v ↔ v = vnum t.n := by
  have hp : prtL t = [] := by unfold prtL; rw [if_neg (by omega), if_neg (by omega), if_neg (by omega)]
  constructor
  · rintro ⟨i, u, hi, hu, ku, hv⟩
    rcases hi.inv ht with rfl | ⟨k, hk', _⟩
    · rw [ht] at hu
      injection hu with e
      subst e
      exact hv.symm
    · rw [hp] at hk'; simp at hk'
  · rintro rfl
    exact ⟨n, t, .self n, ht, hk, rfl⟩
theorem IsVars.var {T : List TD} {n : Nat} {t : TD} {l : List Int} (h : IsVars T n l) (ht : T[n]? = some t) (hk : t.kind = 1) : l = [vnum t.n] :=
  h.uniq ⟨by simp, fun v => by rw [IsV.var ht hk]; simp⟩
theorem IsVars.const {T : List TD} {n : Nat} {t : TD} {l : List Int} (h : IsVars T n l) (ht : T[n]? = some t) (hk : t.kind = 0) : l = [] :=
  h.uniq ⟨by simp, fun v => by
    rw [IsV.parts ht (by omega)]
    have hp : prtL t = [] := by unfold prtL; rw [if_neg (by omega), if_neg (by omega), if_neg (by omega)]
    rw [hp]
    simp⟩
theorem IsVars.zext {T : List TD} {n k : Nat} {t : TD} {l : List Int} (h : IsVars T n l) (ht : T[n]? = some t) (hk : t.kind = 3) (ha : t.a = k) : IsVars T k l :=
  ⟨h.1, fun v => by
    rw [h.2 v, IsV.parts ht (by omega)]
    have hp : prtL t = [t.a] := by unfold prtL; rw [if_neg (by omega), if_pos hk]
    rw [hp, ha]
    constructor
    · rintro ⟨j, hj, q⟩
      obtain rfl : j = k := by simp at hj; omega
      exact q
    · intro q
      exact ⟨k, by simp, q⟩⟩
/-! ### gone over once -/
theorem nodup_le : ∀ (n : Nat) (l : List Nat), l.Nodup → (∀ x ∈ l, x < n) → l.length ≤ n
  | 0, l, _, h => by
    cases l with
    | nil => simp
    | cons x r => have := h x (by simp); omega
  | n + 1, l, hd, h => by
    by_cases hm : n ∈ l
    · have := nodup_le n (l.erase n) (hd.erase n) (fun x hx => by
        have hx' := (List.Nodup.mem_erase_iff hd).1 hx
        have := h x hx'.2
        omega)
      rw [List.length_erase_of_mem hm] at this
      omega
    · have := nodup_le n l hd (fun x hx => by
        have := h x hx
        have : x ≠ n := fun e => hm (e ▸ hx)
        omega)
      omega
/-- What is visited behind a term: it, and what is below it, each once. -/
def Went (T : List TD) (n : Nat) (L L' : List Nat) : Prop :=
  ∃ X, L' = L ++ X ∧ L'.Nodup ∧ n ∈ L' ∧ ∀ i ∈ X, i < T.length ∧ InT T n i ∧ ∀ t, T[i]? = some t → ∀ k : Nat, (k : Int) ∈ prtL t → k ∈ L'
/-- .. behind some of its parts. -/
def WentP (T : List TD) (n : Nat) (ps : List Int) (L L' : List Nat) : Prop :=
  ∃ X, L' = (L ++ [n]) ++ X ∧ L'.Nodup ∧ (∀ k : Nat, (k : Int) ∈ ps → k ∈ L') ∧ ∀ i ∈ X, i < T.length ∧ InT T n i ∧ ∀ t, T[i]? = some t → ∀ k : Nat, (k : Int) ∈ prtL t → k ∈ L'
theorem WentP.zero {T : List TD} {n : Nat} {L : List Nat} (hL : L.Nodup) (hn : n ∉ L) : WentP T n [] L (L ++ [n]) :=
  ⟨[], by simp, by rw [List.nodup_append]; exact ⟨hL, by simp, fun a ha b hb => by simp at hb; subst hb; exact fun e => hn (e ▸ ha)⟩, by simp, by simp⟩
theorem WentP.step {T : List TD} {n k : Nat} {t : TD} {ps : List Int} {L L' L'' : List Nat} (h : WentP T n ps L L') (ht : T[n]? = some t) (hk : (k : Int) ∈ prtL t) (h2 : Went T k L' L'') : WentP T n (ps ++ [(k : Int)]) L L'' := by
  obtain ⟨X, rfl, h3, h4, h5⟩ := h
  obtain ⟨Y, rfl, h6, h7, h8⟩ := h2
  refine ⟨X ++ Y, by simp, h6, fun j hj => ?_, fun i hi => ?_⟩
  · rw [List.mem_append] at hj
    rcases hj with q | q
    · exact List.mem_append.2 (.inl (h4 j q))
    · obtain rfl : j = k := by simp at q; omega
      exact h7
  · rcases List.mem_append.1 hi with q | q
    · obtain ⟨a, b, c⟩ := h5 i q
      exact ⟨a, b, fun u hu j hj => List.mem_append.2 (.inl (c u hu j hj))⟩
    · obtain ⟨a, b, c⟩ := h8 i q
      exact ⟨a, .part n k i t ht hk b, c⟩
theorem WentP.done {T : List TD} {n : Nat} {t : TD} {L L' : List Nat} (h : WentP T n (prtL t) L L') (ht : T[n]? = some t) : Went T n L L' := by
  obtain ⟨X, rfl, h3, h4, h5⟩ := h
  refine ⟨n :: X, by simp, h3, by simp, fun i hi => ?_⟩
  rcases List.mem_cons.1 hi with rfl | q
  · refine ⟨(List.getElem?_eq_some_iff.1 ht).1, .self _, fun u hu k hk => ?_⟩
    rw [ht] at hu
    injection hu with e
    subst e
    exact h4 k hk
  · exact h5 i q
theorem Went.nodup {T : List TD} {n : Nat} {L L' : List Nat} (h : Went T n L L') : L'.Nodup := by
  obtain ⟨X, _, h1, _⟩ := h
  exact h1
theorem Went.lt {T : List TD} {n : Nat} {L L' : List Nat} (h : Went T n L L') (hL : ∀ i ∈ L, i < T.length) : ∀ i ∈ L', i < T.length := by
  obtain ⟨X, rfl, _, _, h3⟩ := h
  intro i hi
  rcases List.mem_append.1 hi with q | q
  · exact hL i q
  · exact (h3 i q).1
theorem WentP.nodup {T : List TD} {n : Nat} {ps : List Int} {L L' : List Nat} (h : WentP T n ps L L') : L'.Nodup := by
  obtain ⟨X, _, h1, _⟩ := h
  exact h1
theorem WentP.lt {T : List TD} {n : Nat} {ps : List Int} {L L' : List Nat} (h : WentP T n ps L L') (hn : n < T.length) (hL : ∀ i ∈ L, i < T.length) : ∀ i ∈ L', i < T.length := by
  obtain ⟨X, rfl, _, _, h3⟩ := h
  intro i hi
  rcases List.mem_append.1 hi with q | q
  · rcases List.mem_append.1 q with q | q
    · exact hL i q
    · simp at q; omega
  · exact (h3 i q).1
/-- From nothing: just what is below. -/
theorem Went.all {T : List TD} {n : Nat} {L : List Nat} (h : Went T n [] L) : ∀ i, i ∈ L ↔ InT T n i := by
  obtain ⟨X, hX, h1, h2, h3⟩ := h
  rw [List.nil_append] at hX
  subst hX
  have key : ∀ m i, InT T m i → m ∈ L → i ∈ L := by
    intro m i q
    induction q with
    | self => exact fun h => h
    | part m k i t ht hk q ih => exact fun hm => ih ((h3 m hm).2.2 t ht k hk)
  intro i
  exact ⟨fun q => (h3 i q).2.1, fun q => key n i q h2⟩
def varAt (T : List TD) (i : Nat) : List Int := match T[i]? with
  | some t => if t.kind = 1 then [vnum t.n] else []
  | none => []
def varsOf (T : List TD) (L : List Nat) : List Int := L.flatMap (varAt T)
def U64 (x : Int) : Prop := 0 ≤ x ∧ x < 18446744073709551616
end Go.Proofs.Ytepagfkkjlbipaa
end
section
namespace Go.Proofs.Ytepagfkkjlbipaa
open Go.RowKit
set_option linter.unusedVariables false
set_option linter.unusedSimpArgs false
open Go.Maps (Keyed)

/-- Block b is a map of at most n entries, whose keys are 'enc x' of plain x that may be (V), and that holds 'f x' at each. -/
def MapIs {κ : Type} (P : Program) (k : TypeId) (enc : κ → Value) (V : κ → Prop) (w : World) (b n : Nat) (f : κ → Option Value) : Prop :=
  ∃ es clock, w.heap[b]? = some (.map es clock) ∧ es.size ≤ n ∧ (es.toList.map (·.key)).Nodup ∧ (∀ e ∈ es.toList, ∃ x, V x ∧ e.key = enc x ∧ f x = some e.val) ∧ ∀ x u, f x = some u → V x ∧ ∃ e ∈ es.toList, e.key = enc x

/-- What a key's type is good for. -/
structure KeyEnc {κ : Type} (P : Program) (k : TypeId) (enc : κ → Value) (V : κ → Prop) : Prop where
  keyed : Keyed P k
  reads : ∀ x, V x → ∃ l, keyOf P k (enc x) = some l
  inj : ∀ x y, V x → V y → enc x = enc y → x = y

section
variable {κ : Type} {P : Program} {k : TypeId} {enc : κ → Value} {V : κ → Prop} {w w' : World} {b n : Nat} {f g : κ → Option Value}
theorem MapIs.new (w : World) : MapIs P k enc V (w.alloc (.map #[] 0)) w.heap.size 0 (fun _ => none) :=
  ⟨#[], 0, (MapKept.heap_alloc w _).1, by simp, by simp, by simp, by simp⟩
theorem MapIs.lt (h : MapIs P k enc V w b n f) : b < w.heap.size := by
  obtain ⟨es, c, hb, _⟩ := h
  exact (Array.getElem?_eq_some_iff.1 hb).1
theorem MapIs.mono {n' : Nat} (h : MapIs P k enc V w b n f) (hn : n ≤ n') : MapIs P k enc V w b n' f := by
  obtain ⟨es, c, h1, h2, h3, h4, h5⟩ := h
  exact ⟨es, c, h1, Nat.le_trans h2 hn, h3, h4, h5⟩
theorem MapIs.congr (h : MapIs P k enc V w b n f) (hg : ∀ x, g x = f x) : MapIs P k enc V w b n g := by
  obtain rfl : g = f := funext hg
  exact h
theorem MapIs.block_ (h : MapIs P k enc V w b n f) (hb : w'.heap[b]? = w.heap[b]?) : MapIs P k enc V w' b n f := by
  obtain ⟨es, c, h1, h2⟩ := h
  exact ⟨es, c, hb.trans h1, h2⟩
theorem MapIs.drew (h : MapIs P k enc V w b n f) : MapIs P k enc V w.drew b n f := h
theorem MapIs.drewN (h : MapIs P k enc V w b n f) (m : Nat) : MapIs P k enc V (w.drewN m) b n f := h
theorem MapIs.alloc (h : MapIs P k enc V w b n f) (o : Obj) : MapIs P k enc V (w.alloc o) b n f := h.block_ (Below.heap_alloc w o b h.lt)
theorem MapIs.far (h : MapIs P k enc V w b n f) {p : Addr} (hp : b ≠ p.block) (u : Value) : MapIs P k enc V (w.setCell p u) b n f := h.block_ (Below.heap_setCell w p u b hp)
theorem MapIs.below {B : Nat} (h : MapIs P k enc V w b n f) (hb : Below B w w') (hg : b < B) : MapIs P k enc V w' b n f := h.block_ (hb.block b hg)
theorem MapIs.grown {row : Option Nat} (h : MapIs P k enc V w b n f) (hb : w.grownBy w' row) (hg : some b ≠ row) : MapIs P k enc V w' b n f := h.block_ (hb.block b h.lt hg)

theorem MapIs.keys (E : KeyEnc P k enc V) {es : Array MapEntry} (h : ∀ e ∈ es.toList, ∃ x, V x ∧ e.key = enc x ∧ f x = some e.val) : ∀ e ∈ es.toList, ∃ l, keyOf P k e.key = some l := by
  intro e he
  obtain ⟨x, hv, hk, _⟩ := h e he
  rw [hk]
  exact E.reads x hv

theorem MapIs.look {t e : TypeId} (h : MapIs P k enc V w b n f) (E : KeyEnc P k enc V) (ht : P.underlying t = some (.map k e)) {z : Value} (hz : (zeroValue e).run P w = .ok z w) (x : κ) (hx : V x) (c : Bool) :
    (Instr.lookup t (.map (some b)) (enc x) c).run P w = .ok (if c then .tuple #[(f x).getD z, .bool (f x).isSome] else (f x).getD z) w := by
  obtain ⟨es, clock, hb, hs, hd, hv, hf⟩ := h
  obtain ⟨l, hl⟩ := E.reads x hx
  rcases E.keyed.find w hl es.toList (MapIs.keys E hv) with ⟨h1, h2⟩ | ⟨j, e0, h1, h2, h3⟩
  · have hn : f x = none := by
      cases hq : f x with
      | none => rfl
      | some u =>
        obtain ⟨_, e1, he1, hk1⟩ := hf x u hq
        exact absurd hk1 (h2 e1 he1)
    rw [hn]
    simp [Instr.lookup, run_underlying ht, MapKept.run_getObj_map hb, E.keyed.check w _ hl, h1, hz, Result.andThen]
  · have hm0 : e0 ∈ es.toList := List.mem_of_getElem? h2
    obtain ⟨y, hy, hk, hfy⟩ := hv e0 hm0
    have hxy : x = y := E.inj x y hx hy (h3 ▸ hk)
    subst hxy
    rw [hfy]
    simp [Instr.lookup, run_underlying ht, MapKept.run_getObj_map hb, E.keyed.check w _ hl, h1, Result.andThen]

variable [DecidableEq κ]
def putF (f : κ → Option Value) (x : κ) (v : Value) : κ → Option Value := fun y => if y = x then some v else f y

theorem MapIs.update {t e : TypeId} (h : MapIs P k enc V w b n f) (E : KeyEnc P k enc V) (ht : P.underlying t = some (.map k e)) (hn : n < maxLen) (x : κ) (hx : V x) (v : Value) :
    ∃ w', (Instr.mapUpdate t (.map (some b)) (enc x) v).run P w = .ok () w' ∧ MapIs P k enc V w' b (n + 1) (putF f x v) ∧ w.grownBy w' (some b) := by
  obtain ⟨es, clock, hb, hs, hd, hv, hf⟩ := h
  obtain ⟨l, hl⟩ := E.reads x hx
  have hgr : ∀ o, w.grownBy (ChangeMaps.setBlock w b o) (some b) := fun o => ⟨rfl, rfl, rfl, by simp [ChangeMaps.setBlock], fun i _ hi => ChangeMaps.heap_setBlock_other hb _ (fun e => hi (by rw [e]))⟩
  rcases E.keyed.find w hl es.toList (MapIs.keys E hv) with ⟨h1, h2⟩ | ⟨j, e0, h1, h2, h3⟩
  · refine ⟨_, by simp [Instr.mapUpdate, run_underlying ht, MapKept.run_getObj_map hb, E.keyed.check w false hl, h1, MapKept.run_setObj_map _ hb, Result.andThen]; rfl, ⟨es.push ⟨enc x, v, clock⟩, clock + 1, ChangeMaps.heap_setBlock_same hb _, by simp; omega, ?_, ?_, ?_⟩, hgr _⟩
    · simp only [Array.toList_push, List.map_append, List.map_cons, List.map_nil]
      refine List.nodup_append.2 ⟨hd, by simp, ?_⟩
      intro a ha c hc
      simp at hc
      subst hc
      obtain ⟨e1, he1, rfl⟩ := List.mem_map.1 ha
      exact h2 e1 he1
    · intro e1 he1
      simp only [Array.toList_push, List.mem_append, List.mem_singleton] at he1
      rcases he1 with he1 | rfl
      · obtain ⟨y, hy, hk, hfy⟩ := hv e1 he1
        refine ⟨y, hy, hk, ?_⟩
        unfold putF
        rw [if_neg (fun e => h2 e1 he1 (by rw [hk, e])), hfy]
      · exact ⟨x, hx, rfl, by simp [putF]⟩
    · intro y u hy
      unfold putF at hy
      simp only [Array.toList_push, List.mem_append, List.mem_singleton]
      by_cases hyx : y = x
      · exact ⟨hyx ▸ hx, _, .inr rfl, by rw [hyx]⟩
      · rw [if_neg hyx] at hy
        obtain ⟨hy0, e1, he1, hk1⟩ := hf y u hy
        exact ⟨hy0, e1, .inl he1, hk1⟩
  · have hj : es[j]? = some e0 := by simpa using h2
    have hjl : j < es.toList.length := (List.getElem?_eq_some_iff.1 h2).1
    have hm0 : e0 ∈ es.toList := List.mem_of_getElem? h2
    obtain ⟨y0, hy0, hk0, hfy0⟩ := hv e0 hm0
    have hxy : x = y0 := E.inj x y0 hx hy0 (h3 ▸ hk0)
    subst hxy
    have hlist : (es.modify j (fun e' => { e' with key := enc x, val := v })).toList = es.toList.set j { e0 with key := enc x, val := v } := by
      rw [Array.toList_modify]
      refine List.ext_getElem? fun i => ?_
      rw [List.getElem?_modify, List.getElem?_set]
      by_cases hij : j = i
      · subst hij
        simp [hj]
        simpa using hjl
      · simp [hij]
    have hkeys : (es.toList.set j { e0 with key := enc x, val := v }).map (·.key) = es.toList.map (·.key) := by
      rw [List.map_set]
      refine List.ext_getElem? fun i => ?_
      rw [List.getElem?_set]
      by_cases hij : j = i
      · subst hij
        simp [hj, h3]
        simpa using hjl
      · simp [hij]
    refine ⟨_, by simp [Instr.mapUpdate, run_underlying ht, MapKept.run_getObj_map hb, E.keyed.check w false hl, h1, hj, h3, E.keyed.stays w hl, MapKept.run_setObj_map _ hb, Result.andThen]; rfl, ⟨es.modify j (fun e' => { e' with key := enc x, val := v }), clock, ChangeMaps.heap_setBlock_same hb _, by simp; omega, ?_, ?_, ?_⟩, hgr _⟩
    · rw [hlist, hkeys]; exact hd
    · rw [hlist]
      intro e1 he1
      obtain ⟨i, hi, ex⟩ := List.getElem_of_mem he1
      rw [List.getElem_set] at ex
      split at ex
      · subst ex
        exact ⟨x, hx, rfl, by simp [putF]⟩
      · rename_i hne
        have hi' : i < es.toList.length := by simpa using hi
        have hm1 : e1 ∈ es.toList := ex ▸ List.getElem_mem hi'
        obtain ⟨y, hy, hk, hfy⟩ := hv e1 hm1
        refine ⟨y, hy, hk, ?_⟩
        unfold putF
        rw [if_neg ?_, hfy]
        rintro rfl
        refine hne ?_
        have hp := List.pairwise_iff_getElem.1 hd
        have hk1 : e1.key = e0.key := hk.trans hk0.symm
        have q0 : es.toList[j] = e0 := by have := List.getElem?_eq_getElem hjl; rw [h2] at this; exact (Option.some.inj this).symm
        rcases Nat.lt_trichotomy i j with hlt | heq | hgt
        · refine absurd ?_ (hp i j (by simpa using hi') (by simpa using hjl) hlt)
          simp only [List.getElem_map, ex, q0, hk1]
        · exact heq.symm
        · refine absurd ?_ (hp j i (by simpa using hjl) (by simpa using hi') hgt)
          simp only [List.getElem_map, ex, q0, hk1]
    · rw [hlist]
      intro y u hy
      unfold putF at hy
      by_cases hyx : y = x
      · subst hyx
        exact ⟨hx, { e0 with key := enc y, val := v }, List.mem_iff_getElem.2 ⟨j, by simpa using hjl, by simp⟩, rfl⟩
      · rw [if_neg hyx] at hy
        obtain ⟨hvy, e1, he1, hk1⟩ := hf y u hy
        obtain ⟨i, hi, ex⟩ := List.getElem_of_mem he1
        have hij : j ≠ i := by
          rintro rfl
          have h5 : e1 = e0 := by
            have := List.getElem?_eq_getElem hi
            rw [h2, ex] at this
            exact (Option.some.inj this).symm
          subst h5
          exact hyx (E.inj y x hvy hx (by rw [← hk1, h3]))
        exact ⟨hvy, e1, List.mem_iff_getElem.2 ⟨i, by simpa using hi, by rw [List.getElem_set, if_neg hij, ex]⟩, hk1⟩

omit [DecidableEq κ] in
/-- The read at the operation. -/
theorem wpList_look {ops : Array Oper} {rest : List Oper} {o : Oper} {a : Act} {Q : Exit → Act → World → Prop} (hg : o.guard = none) (m y : Operand) (t : TypeId) (c : Bool) (hop : o.op = Op.lookup t m y c)
    (e : TypeId) (E : KeyEnc P k enc V) (ht : P.underlying t = some (.map k e)) (z : Value) (hz : (zeroValue e).run P w = .ok z w) (h : MapIs P k enc V w b n f) (x : κ) (hx : V x) (hm : a.eval m = .map (some b)) (hy : a.eval y = enc x)
    (hK : wpList P ops Q rest (a.put o.dst (if c then .tuple #[(f x).getD z, .bool (f x).isSome] else (f x).getD z)) w) : wpList P ops Q (o :: rest) a w := by
  refine wpList_plain hg fun K' hK' => ?_
  unfold Oper.wp
  simp [execOp, hop, hm, hy, h.look E ht hz x hx c, Result.andThen]
  exact hK' _ _ hK
omit [DecidableEq κ] in
/-- .. without 'ok', the value under a name. -/
theorem wpList_look1 {ops : Array Oper} {rest : List Oper} {o : Oper} {a : Act} {Q : Exit → Act → World → Prop} (hg : o.guard = none) (m y : Operand) (t : TypeId) (hop : o.op = Op.lookup t m y false)
    (e : TypeId) (E : KeyEnc P k enc V) (ht : P.underlying t = some (.map k e)) (z : Value) (hz : (zeroValue e).run P w = .ok z w) (h : MapIs P k enc V w b n f) (x : κ) (hx : V x) (hm : a.eval m = .map (some b)) (hy : a.eval y = enc x)
    (v : Value) (hv : (f x).getD z = v) (hK : wpList P ops Q rest (a.put o.dst v) w) : wpList P ops Q (o :: rest) a w := by
  refine wpList_look hg m y t false hop e E ht z hz h x hx hm hy ?_
  subst hv
  simpa using hK
/-- The write at the operation. -/
theorem wpList_put {ops : Array Oper} {rest : List Oper} {o : Oper} {a : Act} {Q : Exit → Act → World → Prop} (hg : o.guard = none) (m y v : Operand) (t : TypeId) (hop : o.op = Op.mapUpdate t m y v)
    (e : TypeId) (E : KeyEnc P k enc V) (ht : P.underlying t = some (.map k e)) (h : MapIs P k enc V w b n f) (hn : n < maxLen) (x : κ) (hx : V x) (val : Value) (hm : a.eval m = .map (some b)) (hy : a.eval y = enc x) (hv : a.eval v = val)
    (hK : ∀ w', MapIs P k enc V w' b (n + 1) (putF f x val) → w.grownBy w' (some b) → wpList P ops Q rest (a.put o.dst undef) w') : wpList P ops Q (o :: rest) a w := by
  refine wpList_plain hg fun K' hK' => ?_
  obtain ⟨w', hrun, r1, r2⟩ := h.update E ht hn x hx val
  unfold Oper.wp
  simp [execOp, hop, hm, hy, hv, hrun, Result.andThen]
  exact hK' _ _ (hK w' r1 r2)
omit [DecidableEq κ] in
/-- A map made, the new world under a name. -/
theorem wpList_makeMap {ops : Array Oper} {rest : List Oper} {o : Oper} {a : Act} {Q : Exit → Act → World → Prop} (enc : κ → Value) (V : κ → Prop) (k : TypeId) (hg : o.guard = none) (t : TypeId) (hop : o.op = Op.makeMap t none)
    (hK : ∀ w' b, w.heap.size ≤ b → MapIs P k enc V w' b 0 (fun _ => none) → Below w.heap.size w w' → wpList P ops Q rest (a.put o.dst (.map (some b))) w') : wpList P ops Q (o :: rest) a w := by
  refine wpList_plain hg fun K' hK' => ?_
  unfold Oper.wp
  have hrun : (Instr.makeMap t none).run P w = .ok (.map (some w.heap.size)) (w.alloc (.map #[] 0)) := rfl
  simp [execOp, hop, hrun, Result.andThen]
  exact hK' _ _ (hK _ _ (Nat.le_refl _) (MapIs.new w) ((Below.refl _ _).alloc (Nat.le_refl _) _))
end
end Go.Proofs.Ytepagfkkjlbipaa
end
section
namespace Go.Proofs.Ytepagfkkjlbipaa
open Go.RowKit
set_option linter.unusedVariables false
set_option linter.unusedSimpArgs false
theorem mapM_some {α β : Type} (g : α → Option β) : ∀ l : List α, (∀ x ∈ l, ∃ y, g x = some y) → ∃ ys, l.mapM g = some ys
  | [], _ => ⟨[], rfl⟩
  | x :: r, h => by
    obtain ⟨y, hy⟩ := h x (by simp)
    obtain ⟨ys, hys⟩ := mapM_some g r (fun z hz => h z (by simp [hz]))
    exact ⟨y :: ys, by simp [List.mapM_cons, hy, hys]⟩
/-- One cell that is an integer. -/
theorem keyLits_one {P : Program} {m : Nat} {e : TypeId} {q : IntKind} {n : Int} {cs : List Value} {i : Nat} (he : P.underlying e = some (.int q)) (hi : cs[i]? = some (.int q n)) (hw : (Lit.int q n).wf = true) :
    ∃ l, P.keyLits (m + 1) e ((cs.drop i).take 1) = some l := by
  have h1 : (cs.drop i).take 1 = [.int q n] := by
    have hl : i < cs.length := (List.getElem?_eq_some_iff.1 hi).1
    rw [List.drop_eq_getElem_cons hl]
    rw [List.getElem?_eq_getElem hl] at hi
    simp [Option.some.inj hi]
  rw [h1]
  exact ⟨[.int q n], by simp [Program.keyLits, he, hw]⟩
theorem keyOf_struct {P : Program} {k : TypeId} {fs : Array Field} {cs : List Value} (hu : P.underlying k = some (.struct fs)) (hk : P.keyType k = true) (hc : P.cellsOf k = cs.length) (hn : fs.all (·.name != "_") = true)
    (hs : Nat.ble 1 P.types.size = true) (hf : ∀ f ∈ fs.toList, ∃ q n, P.underlying f.type = some (.int q) ∧ P.cellsOf f.type = 1 ∧ cs[f.offset]? = some (.int q n) ∧ (Lit.int q n).wf = true) : ∃ l, keyOf P k (.agg cs.toArray) = some l := by
  obtain ⟨m, hm⟩ : ∃ m, P.types.size = m + 1 := ⟨P.types.size - 1, by have := Nat.le_of_ble_eq_true hs; omega⟩
  obtain ⟨ys, hys⟩ := mapM_some (fun f : Field => P.keyLits (m + 1) f.type ((cs.drop f.offset).take (P.cellsOf f.type))) fs.toList (fun f hfm => by
    obtain ⟨q, n, h1, h2, h3, h4⟩ := hf f hfm
    rw [h2]
    exact keyLits_one h1 h3 h4)
  have hl : P.keyLits (P.types.size + 1) k cs = some ys.flatten := by
    rw [hm]
    unfold Program.keyLits
    simp only [hu, hc, hn, and_self, if_true, hys, Option.map_some]
  have hform : (Value.agg cs.toArray).formed P k = true := by simp [Value.formed, hu, hc]
  refine ⟨.string (keyBytes ys.flatten), ?_⟩
  unfold keyOf
  rw [hu]
  simp only [hk, hform, Bool.and_self, if_true, Value.cells, hl, Option.map_some]
end Go.Proofs.Ytepagfkkjlbipaa
end
section
namespace Go.Proofs.Ytepagfkkjlbipaa
open Go.RowKit
set_option linter.unusedVariables false
set_option linter.unusedSimpArgs false

def aggD : TypeDesc → Bool
  | .struct _ | .array _ _ => true
  | _ => false

section
variable {P : Program}
theorem run_isAgg_ {t : TypeId} {d : TypeDesc} (hu : P.underlying t = some d) (hd : aggD d = true) (w : World) : (isAgg t).run P w = .ok true w := by
  unfold isAgg
  rw [Sem.run_bind, run_underlying hu w]
  cases d <;> simp_all [aggD]

theorem run_loadVar_at (w : World) (ad : Addr) (ty : TypeId) (cs : List Value) (d : TypeDesc) (hc : ∀ j u, cs[j]? = some u → w.cell? (ad.add j) = some u)
    (hu : P.underlying ty = some d) (hd : aggD d = true) (hi : (P.info? ty).map (·.size) = some cs.length) : (loadVar ty ad).run P w = .ok (.agg cs.toArray) w := by
  have hl := run_loadCells_list (P := P) w ad cs hc
  cases hq : P.info? ty with
  | none => simp [hq] at hi
  | some i =>
    have hs : i.size = cs.length := by simpa [hq] using hi
    simp [loadVar, Sem.run_bind, run_isAgg_ hu hd w, sizeOf, typeInfo, hq, hs, hl]

theorem wpList_load_at {ops : Array Oper} {rest : List Oper} {o : Oper} {a : Act} {w : World} {Q : Exit → Act → World → Prop} (hgd : o.guard = none) (ty : TypeId) (x : Operand) (ho : o.op = .load ty x)
    (ad : Addr) (hx : a.eval x = .pointer (some ad)) (cs : List Value) (d : TypeDesc) (hc : ∀ j u, cs[j]? = some u → w.cell? (ad.add j) = some u)
    (hu : P.underlying ty = some d) (hd : aggD d = true) (hi : (P.info? ty).map (·.size) = some cs.length)
    (h : wpList P ops Q rest (a.put o.dst (.agg cs.toArray)) w) : wpList P ops Q (o :: rest) a w :=
  wpList_plain hgd fun _ hK => by
    unfold Oper.wp execOp
    simp only [ho, hx, Instr.loadAt, Instr.sureAddr, Sem.run_bind, Sem.run_pure, Result.andThen_ok, run_loadVar_at w ad ty cs d hc hu hd hi]
    exact hK _ _ h

theorem setRow_alloc (w : World) (cs cs' : Array Value) (t : TypeId) : (w.alloc (.cells cs t)).setRow w.heap.size cs' = w.alloc (.cells cs' t) := by
  unfold World.setRow World.alloc
  congr 1
  refine Array.ext_getElem? fun i => ?_
  rw [Array.getElem?_modify]
  by_cases hi : w.heap.size = i
  · subst hi; simp
  · simp [hi, Array.getElem?_push, show i ≠ w.heap.size from fun e => hi e.symm]

/-- A new variable, and what is stored into it at once. -/
theorem wpList_alloc_store {ops : Array Oper} {rest : List Oper} {o1 o2 : Oper} {a : Act} {w : World} {Q : Exit → Act → World → Prop} (hg1 : o1.guard = none) (hg2 : o2.guard = none) (ty : TypeId) (x y : Operand)
    (ho1 : o1.op = .alloc ty) (ho2 : o2.op = .store ty x y) (i0 : TypeInfo) (z v : Value) (hi : P.info? ty = some i0) (hz : i0.zero = some z) (hzs : z.cells.size = i0.size) (hvs : v.cells.size = i0.size) (h1 : v.cells.all (·.oneCell') = true)
    (hx : (a.put o1.dst (.pointer (some ⟨w.heap.size, 0, none⟩))).eval x = .pointer (some ⟨w.heap.size, 0, none⟩)) (hy : (a.put o1.dst (.pointer (some ⟨w.heap.size, 0, none⟩))).eval y = v)
    (h : wpList P ops Q rest ((a.put o1.dst (.pointer (some ⟨w.heap.size, 0, none⟩))).put o2.dst undef) (w.alloc (.cells v.cells ty))) : wpList P ops Q (o1 :: o2 :: rest) a w := by
  refine wpList_plain hg1 fun K hK => ?_
  unfold Oper.wp execOp
  have hrun : (Instr.alloc ty true (.tuple #[])).run P w = .ok (.pointer (some ⟨w.heap.size, 0, none⟩)) (w.alloc (.cells z.cells ty)) := by
    simp [Instr.alloc, zeroValue, typeInfo, hi, hz, newVar, newRow, Sem.run_bind]
  simp only [ho1, Sem.run_bind, hrun, Result.andThen_ok, Sem.run_pure]
  refine hK _ _ ?_
  refine wpList_plain hg2 fun K' hK' => ?_
  unfold Oper.wp execOp
  have hst : (storeVar ty ⟨w.heap.size, 0, none⟩ v).run P (w.alloc (.cells z.cells ty)) = .ok () (w.alloc (.cells v.cells ty)) := by
    have := run_storeCells_from (P := P) w.heap.size ty v.cells.toList 0 z.cells (w.alloc (.cells z.cells ty)) (heap_alloc_new w _) (by simp; omega) (fun u hu => (Array.all_eq_true_iff_forall_mem.1 h1) u (by simpa using hu))
    simp [storeVar, sizeOf, typeInfo, hi, hvs, this, setRow_alloc]
  simp only [ho2, hx, hy, Instr.storeAt, Instr.sureAddr, Sem.run_bind, Sem.run_pure, Result.andThen_ok, hst]
  exact hK' _ _ h

/-- .. the new world under a name. -/
theorem wpList_new {ops : Array Oper} {rest : List Oper} {o1 o2 : Oper} {a : Act} {w : World} {Q : Exit → Act → World → Prop} (hg1 : o1.guard = none) (hg2 : o2.guard = none) (ty : TypeId) (x y : Operand)
    (ho1 : o1.op = .alloc ty) (ho2 : o2.op = .store ty x y) (i0 : TypeInfo) (z v : Value) (cs : Array Value) (hi : P.info? ty = some i0) (hz : i0.zero = some z) (hzs : z.cells.size = i0.size) (hcs : v.cells = cs) (hvs : cs.size = i0.size)
    (h1 : cs.all (·.oneCell') = true)
    (hx : (a.put o1.dst (.pointer (some ⟨w.heap.size, 0, none⟩))).eval x = .pointer (some ⟨w.heap.size, 0, none⟩)) (hy : (a.put o1.dst (.pointer (some ⟨w.heap.size, 0, none⟩))).eval y = v)
    (h : ∀ w' g, w.heap.size ≤ g → Blk w' g ty cs → Below w.heap.size w w' → wpList P ops Q rest ((a.put o1.dst (.pointer (some ⟨g, 0, none⟩))).put o2.dst undef) w') : wpList P ops Q (o1 :: o2 :: rest) a w := by
  subst hcs
  exact wpList_alloc_store hg1 hg2 ty x y ho1 ho2 i0 z v hi hz hzs hvs h1 hx hy (h _ _ (Nat.le_refl _) (Blk.new w _ _) ((Below.refl _ _).alloc (Nat.le_refl _) _))

theorem run_index_one (w : World) (t e : TypeId) (len : Nat) (cs : Array Value) (kd : IntKind) (i : Nat) (d : TypeDesc) (v : Value) (ht : P.underlying t = some (.array len e)) (he : P.underlying e = some d) (hd : aggD d = false)
    (hsz : (P.info? e).map (·.size) = some 1) (hi : i < len) (hv : cs[i]? = some v) : (Instr.index t (.agg cs) (.int kd (i : Int))).run P w = .ok v w := by
  have hagg : (isAgg e).run P w = .ok false w := by
    unfold isAgg
    rw [Sem.run_bind, run_underlying he w]
    cases d <;> simp_all [aggD]
  cases hq : P.info? e with
  | none => simp [hq] at hsz
  | some i0 =>
    have hs : i0.size = 1 := by simpa [hq] using hsz
    simp [Instr.index, run_underlying ht, hi, sizeOf, typeInfo, hq, hs, part, Sem.run_bind, hagg, asIntOf, hv]

/-- A value boxed, the new world under a name. -/
theorem wpList_box {ops : Array Oper} {rest : List Oper} {o : Oper} {a : Act} {w : World} {Q : Exit → Act → World → Prop} (hgd : o.guard = none) (ty : TypeId) (x : Operand) (ho : o.op = .box ty x) (v : Value) (cs : Array Value) (hv : a.eval x = v) (hcs : v.cells = cs)
    (h : ∀ w' g, w.heap.size ≤ g → Blk w' g ty cs → Below w.heap.size w w' → wpList P ops Q rest (a.put o.dst (.pointer (some ⟨g, 0, none⟩))) w') : wpList P ops Q (o :: rest) a w :=
  wpList_plain hgd fun _ hK => by
    subst hcs
    unfold Oper.wp execOp
    have hrun : (Instr.box ty v).run P w = .ok (.pointer (some ⟨w.heap.size, 0, none⟩)) (w.alloc (.cells v.cells ty)) := by
      simp [Instr.box, newVar, newRow, Sem.run_bind]
    simp only [ho, hv, Sem.run_bind, hrun, Sem.run_pure, Result.andThen_ok]
    exact hK _ _ (h _ _ (Nat.le_refl _) (Blk.new w _ _) ((Below.refl _ _).alloc (Nat.le_refl _) _))
end
/-- A struct's cells behind its first. -/
theorem blk_tail {w : World} {g : Nat} {t : TypeId} {v : Value} {l : List Value} (h : Blk w g t (v :: l).toArray) : ∀ j u, l[j]? = some u → w.cell? ((⟨g, 1, none⟩ : Addr).add j) = some u := by
  intro j u hu
  rw [show (⟨g, 1, none⟩ : Addr).add j = ⟨g, 1 + j, none⟩ from by unfold Addr.add; split <;> simp_all, h.cell (1 + j)]
  rw [Nat.add_comm]
  simpa using hu
theorem blk_list {w : World} {g : Nat} {t : TypeId} {l : List Value} (h : Blk w g t l.toArray) : ∀ j u, l[j]? = some u → w.cell? ((⟨g, 0, none⟩ : Addr).add j) = some u := by
  intro j u hu
  rw [show (⟨g, 0, none⟩ : Addr).add j = ⟨g, j, none⟩ from by unfold Addr.add; split <;> simp_all, h.cell j]
  simpa using hu
end Go.Proofs.Ytepagfkkjlbipaa
end
