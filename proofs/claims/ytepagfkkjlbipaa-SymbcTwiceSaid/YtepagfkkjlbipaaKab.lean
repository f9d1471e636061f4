/-
  A map that the call itself has made, as a function of plain keys: made, read, written. Conditions: those written in each statement.
  Structs and arrays of integers as keys of a map. Conditions: those written in each statement.
  Aggregates of several cells: loaded from a row's middle, laid into a new variable, read at an index. Conditions: those written in each statement.
  One element laid into a slice and appended to a row of the call's own, whatever the element's size. Conditions: those written in each statement.
  A row of the call's own, cut or whole. Conditions: those written in each statement.
  A map's entry made, and then filled: m[k] = v where the value is reckoned between the two; a key that was not there. Conditions: those written in each statement.
-/
import Derived.Test.YtepagfkkjlbipaaKaa
import Derived.Maps.Own
import Derived.Maps.OwnOps
import Derived.DeepKeys5
import Derived.WideKeyEntry
section
namespace Go.Proofs.Ytepagfkkjlbipaa
open Go.RowKit
set_option linter.unusedVariables false
set_option linter.unusedSimpArgs false
open Go.Maps (Keyed)

/-- Block b is a map of at most n entries, whose keys are 'enc x' of plain x that may be (V), and that holds 'f x' at each. -/
def MapIs {κ : Type} (P : Program) (k : TypeId) (enc : κ → Value) (V : κ → Prop) (w : World) (b n : Nat) (f : κ → Option Value) : Prop :=
  ∃ es clock, w.heap[b]? = some (.map es clock) ∧ es.size ≤ n ∧ (es.toList.map (·.key)).Nodup ∧ (∀ e ∈ es.toList, ∃ x, V x ∧ e.key = enc x ∧ f x = some e.val) ∧ ∀ x u, f x = some u → V x ∧ ∃ e ∈ es.toList, e.key = enc x

/-- What a key's type is good for. -/
structure KeyEnc {κ : Type} (P : Program) (k : TypeId) (enc : κ → Value) (V : κ → Prop) : Prop where
  keyed : Keyed P k
  reads : ∀ x, V x → ∃ l, keyOf P k (enc x) = some l
  inj : ∀ x y, V x → V y → enc x = enc y → x = y

section
variable {κ : Type} {P : Program} {k : TypeId} {enc : κ → Value} {V : κ → Prop} {w w' : World} {b n : Nat} {f g : κ → Option Value}
theorem MapIs.new (w : World) : MapIs P k enc V (w.alloc (.map #[] 0)) w.heap.size 0 (fun _ => none) :=
  ⟨#[], 0, (MapKept.heap_alloc w _).1, by simp, by simp, by simp, by simp⟩
theorem MapIs.lt (h : MapIs P k enc V w b n f) : b < w.heap.size := by
  obtain ⟨es, c, hb, _⟩ := h
  exact (Array.getElem?_eq_some_iff.1 hb).1
theorem MapIs.mono {n' : Nat} (h : MapIs P k enc V w b n f) (hn : n ≤ n') : MapIs P k enc V w b n' f := by
  obtain ⟨es, c, h1, h2, h3, h4, h5⟩ := h
  exact ⟨es, c, h1, Nat.le_trans h2 hn, h3, h4, h5⟩
theorem MapIs.congr (h : MapIs P k enc V w b n f) (hg : ∀ x, g x = f x) : MapIs P k enc V w b n g := by
  obtain rfl : g = f := funext hg
  exact h
theorem MapIs.block_ (h : MapIs P k enc V w b n f) (hb : w'.heap[b]? = w.heap[b]?) : MapIs P k enc V w' b n f := by
  obtain ⟨es, c, h1, h2⟩ := h
  exact ⟨es, c, hb.trans h1, h2⟩
theorem MapIs.drew (h : MapIs P k enc V w b n f) : MapIs P k enc V w.drew b n f := h
theorem MapIs.drewN (h : MapIs P k enc V w b n f) (m : Nat) : MapIs P k enc V (w.drewN m) b n f := h
theorem MapIs.alloc (h : MapIs P k enc V w b n f) (o : Obj) : MapIs P k enc V (w.alloc o) b n f := h.block_ (Below.heap_alloc w o b h.lt)
theorem MapIs.far (h : MapIs P k enc V w b n f) {p : Addr} (hp : b ≠ p.block) (u : Value) : MapIs P k enc V (w.setCell p u) b n f := h.block_ (Below.heap_setCell w p u b hp)
theorem MapIs.below {B : Nat} (h : MapIs P k enc V w b n f) (hb : Below B w w') (hg : b < B) : MapIs P k enc V w' b n f := h.block_ (hb.block b hg)
theorem MapIs.grown {row : Option Nat} (h : MapIs P k enc V w b n f) (hb : w.grownBy w' row) (hg : some b ≠ row) : MapIs P k enc V w' b n f := h.block_ (hb.block b h.lt hg)

theorem MapIs.keys (E : KeyEnc P k enc V) {es : Array MapEntry} (h : ∀ e ∈ es.toList, ∃ x, V x ∧ e.key = enc x ∧ f x = some e.val) : ∀ e ∈ es.toList, ∃ l, keyOf P k e.key = some l := by
  intro e he
  obtain ⟨x, hv, hk, _⟩ := h e he
  rw [hk]
  exact E.reads x hv

theorem MapIs.look {t e : TypeId} (h : MapIs P k enc V w b n f) (E : KeyEnc P k enc V) (ht : P.underlying t = some (.map k e)) {z : Value} (hz : (zeroValue e).run P w = .ok z w) (x : κ) (hx : V x) (c : Bool) :
    (Instr.lookup t (.map (some b)) (enc x) c).run P w = .ok (if c then .tuple #[(f x).getD z, .bool (f x).isSome] else (f x).getD z) w := by
  obtain ⟨es, clock, hb, hs, hd, hv, hf⟩ := h
  obtain ⟨l, hl⟩ := E.reads x hx
  rcases E.keyed.find w hl es.toList (MapIs.keys E hv) with ⟨h1, h2⟩ | ⟨j, e0, h1, h2, h3⟩
  · have hn : f x = none := by
      cases hq : f x with
      | none => rfl
      | some u =>
        obtain ⟨_, e1, he1, hk1⟩ := hf x u hq
        exact absurd hk1 (h2 e1 he1)
    rw [hn]
    simp [Instr.lookup, run_underlying ht, MapKept.run_getObj_map hb, E.keyed.check w _ hl, h1, hz, Result.andThen]
  · have hm0 : e0 ∈ es.toList := List.mem_of_getElem? h2
    obtain ⟨y, hy, hk, hfy⟩ := hv e0 hm0
    have hxy : x = y := E.inj x y hx hy (h3 ▸ hk)
    subst hxy
    rw [hfy]
    simp [Instr.lookup, run_underlying ht, MapKept.run_getObj_map hb, E.keyed.check w _ hl, h1, Result.andThen]

variable [DecidableEq κ]
def putF (f : κ → Option Value) (x : κ) (v : Value) : κ → Option Value := fun y => if y = x then some v else f y

theorem MapIs.update {t e : TypeId} (h : MapIs P k enc V w b n f) (E : KeyEnc P k enc V) (ht : P.underlying t = some (.map k e)) (hn : n < maxLen) (x : κ) (hx : V x) (v : Value) :
    ∃ w', (Instr.mapUpdate t (.map (some b)) (enc x) v).run P w = .ok () w' ∧ MapIs P k enc V w' b (n + 1) (putF f x v) ∧ w.grownBy w' (some b) := by
  obtain ⟨es, clock, hb, hs, hd, hv, hf⟩ := h
  obtain ⟨l, hl⟩ := E.reads x hx
  have hgr : ∀ o, w.grownBy (ChangeMaps.setBlock w b o) (some b) := fun o => ⟨rfl, rfl, rfl, by simp [ChangeMaps.setBlock], fun i _ hi => ChangeMaps.heap_setBlock_other hb _ (fun e => hi (by rw [e]))⟩
  rcases E.keyed.find w hl es.toList (MapIs.keys E hv) with ⟨h1, h2⟩ | ⟨j, e0, h1, h2, h3⟩
  · refine ⟨_, by simp [Instr.mapUpdate, run_underlying ht, MapKept.run_getObj_map hb, E.keyed.check w false hl, h1, MapKept.run_setObj_map _ hb, Result.andThen]; rfl, ⟨es.push ⟨enc x, v, clock⟩, clock + 1, ChangeMaps.heap_setBlock_same hb _, by simp; omega, ?_, ?_, ?_⟩, hgr _⟩
    · simp only [Array.toList_push, List.map_append, List.map_cons, List.map_nil]
      refine List.nodup_append.2 ⟨hd, by simp, ?_⟩
      intro a ha c hc
      simp at hc
      subst hc
      obtain ⟨e1, he1, rfl⟩ := List.mem_map.1 ha
      exact h2 e1 he1
    · intro e1 he1
      simp only [Array.toList_push, List.mem_append, List.mem_singleton] at he1
      rcases he1 with he1 | rfl
      · obtain ⟨y, hy, hk, hfy⟩ := hv e1 he1
        refine ⟨y, hy, hk, ?_⟩
        unfold putF
        rw [if_neg (fun e => h2 e1 he1 (by rw [hk, e])), hfy]
      · exact ⟨x, hx, rfl, by simp [putF]⟩
    · intro y u hy
      unfold putF at hy
      simp only [Array.toList_push, List.mem_append, List.mem_singleton]
      by_cases hyx : y = x
      · exact ⟨hyx ▸ hx, _, .inr rfl, by rw [hyx]⟩
      · rw [if_neg hyx] at hy
        obtain ⟨hy0, e1, he1, hk1⟩ := hf y u hy
        exact ⟨hy0, e1, .inl he1, hk1⟩
  · have hj : es[j]? = some e0 := by simpa using h2
    have hjl : j < es.toList.length := (List.getElem?_eq_some_iff.1 h2).1
    have hm0 : e0 ∈ es.toList := List.mem_of_getElem? h2
    obtain ⟨y0, hy0, hk0, hfy0⟩ := hv e0 hm0
    have hxy : x = y0 := E.inj x y0 hx hy0 (h3 ▸ hk0)
    subst hxy
    have hlist : (es.modify j (fun e' => { e' with key := enc x, val := v })).toList = es.toList.set j { e0 with key := enc x, val := v } := by
      rw [Array.toList_modify]
      refine List.ext_getElem? fun i => ?_
      rw [List.getElem?_modify, List.getElem?_set]
      by_cases hij : j = i
      · subst hij
        simp [hj]
        simpa using hjl
      · simp [hij]
    have hkeys : (es.toList.set j { e0 with key := enc x, val := v }).map (·.key) = es.toList.map (·.key) := by
      rw [List.map_set]
      refine List.ext_getElem? fun i => ?_
      rw [List.getElem?_set]
      by_cases hij : j = i
      · subst hij
        simp [hj, h3]
        simpa using hjl
      · simp [hij]
    refine ⟨_, by simp [Instr.mapUpdate, run_underlying ht, MapKept.run_getObj_map hb, E.keyed.check w false hl, h1, hj, h3, E.keyed.stays w hl, MapKept.run_setObj_map _ hb, Result.andThen]; rfl, ⟨es.modify j (fun e' => { e' with key := enc x, val := v }), clock, ChangeMaps.heap_setBlock_same hb _, by simp; omega, ?_, ?_, ?_⟩, hgr _⟩
    · rw [hlist, hkeys]; exact hd
    · rw [hlist]
      intro e1 he1
      obtain ⟨i, hi, ex⟩ := List.getElem_of_mem he1
      rw [List.getElem_set] at ex
      split at ex
      · subst ex
        exact ⟨x, hx, rfl, by simp [putF]⟩
      · rename_i hne
        have hi' : i < es.toList.length := by simpa using hi
        have hm1 : e1 ∈ es.toList := ex ▸ List.getElem_mem hi'
        obtain ⟨y, hy, hk, hfy⟩ := hv e1 hm1
        refine ⟨y, hy, hk, ?_⟩
        unfold putF
        rw [if_neg ?_, hfy]
        rintro rfl
        refine hne ?_
        have hp := List.pairwise_iff_getElem.1 hd
        have hk1 : e1.key = e0.key := hk.trans hk0.symm
        have q0 : es.toList[j] = e0 := by have := List.getElem?_eq_getElem hjl; rw [h2] at this; exact (Option.some.inj this).symm
        rcases Nat.lt_trichotomy i j with hlt | heq | hgt
        · refine absurd ?_ (hp i j (by simpa using hi') (by simpa using hjl) hlt)
          simp only [List.getElem_map, ex, q0, hk1]
        · exact heq.symm
        · refine absurd ?_ (hp j i (by simpa using hjl) (by simpa using hi') hgt)
          simp only [List.getElem_map, ex, q0, hk1]
    · rw [hlist]
      intro y u hy
      unfold putF at hy
      by_cases hyx : y = x
      · subst hyx
        exact ⟨hx, { e0 with key := enc y, val := v }, List.mem_iff_getElem.2 ⟨j, by simpa using hjl, by simp⟩, rfl⟩
      · rw [if_neg hyx] at hy
        obtain ⟨hvy, e1, he1, hk1⟩ := hf y u hy
        obtain ⟨i, hi, ex⟩ := List.getElem_of_mem he1
        have hij : j ≠ i := by
          rintro rfl
          have h5 : e1 = e0 := by
            have := List.getElem?_eq_getElem hi
            rw [h2, ex] at this
            exact (Option.some.inj this).symm
          subst h5
          exact hyx (E.inj y x hvy hx (by rw [← hk1, h3]))
        exact ⟨hvy, e1, List.mem_iff_getElem.2 ⟨i, by simpa using hi, by rw [List.getElem_set, if_neg hij, ex]⟩, hk1⟩

omit [DecidableEq κ] in
/-- The read at the operation. -/
theorem wpList_look {ops : Array Oper} {rest : List Oper} {o : Oper} {a : Act} {Q : Exit → Act → World → Prop} (hg : o.guard = none) (m y : Operand) (t : TypeId) (c : Bool) (hop : o.op = Op.lookup t m y c)
    (e : TypeId) (E : KeyEnc P k enc V) (ht : P.underlying t = some (.map k e)) (z : Value) (hz : (zeroValue e).run P w = .ok z w) (h : MapIs P k enc V w b n f) (x : κ) (hx : V x) (hm : a.eval m = .map (some b)) (hy : a.eval y = enc x)
    (hK : wpList P ops Q rest (a.put o.dst (if c then .tuple #[(f x).getD z, .bool (f x).isSome] else (f x).getD z)) w) : wpList P ops Q (o :: rest) a w := by
  refine wpList_plain hg fun K' hK' => ?_
  unfold Oper.wp
  simp [execOp, hop, hm, hy, h.look E ht hz x hx c, Result.andThen]
  exact hK' _ _ hK
omit [DecidableEq κ] in
/-- .. without 'ok', the value under a name. -/
theorem wpList_look1 {ops : Array Oper} {rest : List Oper} {o : Oper} {a : Act} {Q : Exit → Act → World → Prop} (hg : o.guard = none) (m y : Operand) (t : TypeId) (hop : o.op = Op.lookup t m y false)
    (e : TypeId) (E : KeyEnc P k enc V) (ht : P.underlying t = some (.map k e)) (z : Value) (hz : (zeroValue e).run P w = .ok z w) (h : MapIs P k enc V w b n f) (x : κ) (hx : V x) (hm : a.eval m = .map (some b)) (hy : a.eval y = enc x)
    (v : Value) (hv : (f x).getD z = v) (hK : wpList P ops Q rest (a.put o.dst v) w) : wpList P ops Q (o :: rest) a w := by
  refine wpList_look hg m y t false hop e E ht z hz h x hx hm hy ?_
  subst hv
  simpa using hK
/-- The write at the operation. -/
theorem wpList_put {ops : Array Oper} {rest : List Oper} {o : Oper} {a : Act} {Q : Exit → Act → World → Prop} (hg : o.guard = none) (m y v : Operand) (t : TypeId) (hop : o.op = Op.mapUpdate t m y v)
    (e : TypeId) (E : KeyEnc P k enc V) (ht : P.underlying t = some (.map k e)) (h : MapIs P k enc V w b n f) (hn : n < maxLen) (x : κ) (hx : V x) (val : Value) (hm : a.eval m = .map (some b)) (hy : a.eval y = enc x) (hv : a.eval v = val)
    (hK : ∀ w', MapIs P k enc V w' b (n + 1) (putF f x val) → w.grownBy w' (some b) → wpList P ops Q rest (a.put o.dst undef) w') : wpList P ops Q (o :: rest) a w := by
  refine wpList_plain hg fun K' hK' => ?_
  obtain ⟨w', hrun, r1, r2⟩ := h.update E ht hn x hx val
  unfold Oper.wp
  simp [execOp, hop, hm, hy, hv, hrun, Result.andThen]
  exact hK' _ _ (hK w' r1 r2)
omit [DecidableEq κ] in
/-- A map made, the new world under a name. -/
theorem wpList_makeMap {ops : Array Oper} {rest : List Oper} {o : Oper} {a : Act} {Q : Exit → Act → World → Prop} (enc : κ → Value) (V : κ → Prop) (k : TypeId) (hg : o.guard = none) (t : TypeId) (hop : o.op = Op.makeMap t none)
    (hK : ∀ w' b, w.heap.size ≤ b → MapIs P k enc V w' b 0 (fun _ => none) → Below w.heap.size w w' → wpList P ops Q rest (a.put o.dst (.map (some b))) w') : wpList P ops Q (o :: rest) a w := by
  refine wpList_plain hg fun K' hK' => ?_
  unfold Oper.wp
  have hrun : (Instr.makeMap t none).run P w = .ok (.map (some w.heap.size)) (w.alloc (.map #[] 0)) := rfl
  simp [execOp, hop, hrun, Result.andThen]
  exact hK' _ _ (hK _ _ (Nat.le_refl _) (MapIs.new w) ((Below.refl _ _).alloc (Nat.le_refl _) _))
end
end Go.Proofs.Ytepagfkkjlbipaa
end
section
namespace Go.Proofs.Ytepagfkkjlbipaa
open Go.RowKit
set_option linter.unusedVariables false
set_option linter.unusedSimpArgs false
theorem mapM_some {α β : Type} (g : α → Option β) : ∀ l : List α, (∀ x ∈ l, ∃ y, g x = some y) → ∃ ys, l.mapM g = some ys
  | [], _ => ⟨[], rfl⟩
  | x :: r, h => by
    obtain ⟨y, hy⟩ := h x (by simp)
    obtain ⟨ys, hys⟩ := mapM_some g r (fun z hz => h z (by simp [hz]))
    exact ⟨y :: ys, by simp [List.mapM_cons, hy, hys]⟩
/-- One cell that is an integer. -/
theorem keyLits_one {P : Program} {m : Nat} {e : TypeId} {q : IntKind} {n : Int} {cs : List Value} {i : Nat} (he : P.underlying e = some (.int q)) (hi : cs[i]? = some (.int q n)) (hw : (Lit.int q n).wf = true) :
    ∃ l, P.keyLits (m + 1) e ((cs.drop i).take 1) = some l := by
  have h1 : (cs.drop i).take 1 = [.int q n] := by
    have hl : i < cs.length := (List.getElem?_eq_some_iff.1 hi).1
    rw [List.drop_eq_getElem_cons hl]
    rw [List.getElem?_eq_getElem hl] at hi
    simp [Option.some.inj hi]
  rw [h1]
  exact ⟨[.int q n], by simp [Program.keyLits, he, hw]⟩
theorem keyOf_struct {P : Program} {k : TypeId} {fs : Array Field} {cs : List Value} (hu : P.underlying k = some (.struct fs)) (hk : P.keyType k = true) (hc : P.cellsOf k = cs.length) (hn : fs.all (·.name != "_") = true)
    (hs : Nat.ble 1 P.types.size = true) (hf : ∀ f ∈ fs.toList, ∃ q n, P.underlying f.type = some (.int q) ∧ P.cellsOf f.type = 1 ∧ cs[f.offset]? = some (.int q n) ∧ (Lit.int q n).wf = true) : ∃ l, keyOf P k (.agg cs.toArray) = some l := by
  obtain ⟨m, hm⟩ : ∃ m, P.types.size = m + 1 := ⟨P.types.size - 1, by have := Nat.le_of_ble_eq_true hs; omega⟩
  obtain ⟨ys, hys⟩ := mapM_some (fun f : Field => P.keyLits (m + 1) f.type ((cs.drop f.offset).take (P.cellsOf f.type))) fs.toList (fun f hfm => by
    obtain ⟨q, n, h1, h2, h3, h4⟩ := hf f hfm
    rw [h2]
    exact keyLits_one h1 h3 h4)
  have hl : P.keyLits (P.types.size + 1) k cs = some ys.flatten := by
    rw [hm]
    unfold Program.keyLits
    simp only [hu, hc, hn, and_self, if_true, hys, Option.map_some]
  have hform : (Value.agg cs.toArray).formed P k = true := by simp [Value.formed, hu, hc]
  refine ⟨.string (keyBytes ys.flatten), ?_⟩
  unfold keyOf
  rw [hu]
  simp only [hk, hform, Bool.and_self, if_true, Value.cells, hl, Option.map_some]
end Go.Proofs.Ytepagfkkjlbipaa
end
section
namespace Go.Proofs.Ytepagfkkjlbipaa
open Go.RowKit
set_option linter.unusedVariables false
set_option linter.unusedSimpArgs false

def aggD : TypeDesc → Bool
  | .struct _ | .array _ _ => true
  | _ => false

section
variable {P : Program}
theorem run_isAgg_ {t : TypeId} {d : TypeDesc} (hu : P.underlying t = some d) (hd : aggD d = true) (w : World) : (isAgg t).run P w = .ok true w := by
  unfold isAgg
  rw [Sem.run_bind, run_underlying hu w]
  cases d <;> simp_all [aggD]

theorem run_loadVar_at (w : World) (ad : Addr) (ty : TypeId) (cs : List Value) (d : TypeDesc) (hc : ∀ j u, cs[j]? = some u → w.cell? (ad.add j) = some u)
    (hu : P.underlying ty = some d) (hd : aggD d = true) (hi : (P.info? ty).map (·.size) = some cs.length) : (loadVar ty ad).run P w = .ok (.agg cs.toArray) w := by
  have hl := run_loadCells_list (P := P) w ad cs hc
  cases hq : P.info? ty with
  | none => simp [hq] at hi
  | some i =>
    have hs : i.size = cs.length := by simpa [hq] using hi
    simp [loadVar, Sem.run_bind, run_isAgg_ hu hd w, sizeOf, typeInfo, hq, hs, hl]

theorem wpList_load_at {ops : Array Oper} {rest : List Oper} {o : Oper} {a : Act} {w : World} {Q : Exit → Act → World → Prop} (hgd : o.guard = none) (ty : TypeId) (x : Operand) (ho : o.op = .load ty x)
    (ad : Addr) (hx : a.eval x = .pointer (some ad)) (cs : List Value) (d : TypeDesc) (hc : ∀ j u, cs[j]? = some u → w.cell? (ad.add j) = some u)
    (hu : P.underlying ty = some d) (hd : aggD d = true) (hi : (P.info? ty).map (·.size) = some cs.length)
    (h : wpList P ops Q rest (a.put o.dst (.agg cs.toArray)) w) : wpList P ops Q (o :: rest) a w :=
  wpList_plain hgd fun _ hK => by
    unfold Oper.wp execOp
    simp only [ho, hx, Instr.loadAt, Instr.sureAddr, Sem.run_bind, Sem.run_pure, Result.andThen_ok, run_loadVar_at w ad ty cs d hc hu hd hi]
    exact hK _ _ h

theorem setRow_alloc (w : World) (cs cs' : Array Value) (t : TypeId) : (w.alloc (.cells cs t)).setRow w.heap.size cs' = w.alloc (.cells cs' t) := by
  unfold World.setRow World.alloc
  congr 1
  refine Array.ext_getElem? fun i => ?_
  rw [Array.getElem?_modify]
  by_cases hi : w.heap.size = i
  · subst hi; simp
  · simp [hi, Array.getElem?_push, show i ≠ w.heap.size from fun e => hi e.symm]

/-- A new variable, and what is stored into it at once. -/
theorem wpList_alloc_store {ops : Array Oper} {rest : List Oper} {o1 o2 : Oper} {a : Act} {w : World} {Q : Exit → Act → World → Prop} (hg1 : o1.guard = none) (hg2 : o2.guard = none) (ty : TypeId) (x y : Operand)
    (ho1 : o1.op = .alloc ty) (ho2 : o2.op = .store ty x y) (i0 : TypeInfo) (z v : Value) (hi : P.info? ty = some i0) (hz : i0.zero = some z) (hzs : z.cells.size = i0.size) (hvs : v.cells.size = i0.size) (h1 : v.cells.all (·.oneCell') = true)
    (hx : (a.put o1.dst (.pointer (some ⟨w.heap.size, 0, none⟩))).eval x = .pointer (some ⟨w.heap.size, 0, none⟩)) (hy : (a.put o1.dst (.pointer (some ⟨w.heap.size, 0, none⟩))).eval y = v)
    (h : wpList P ops Q rest ((a.put o1.dst (.pointer (some ⟨w.heap.size, 0, none⟩))).put o2.dst undef) (w.alloc (.cells v.cells ty))) : wpList P ops Q (o1 :: o2 :: rest) a w := by
  refine wpList_plain hg1 fun K hK => ?_
  unfold Oper.wp execOp
  have hrun : (Instr.alloc ty true (.tuple #[])).run P w = .ok (.pointer (some ⟨w.heap.size, 0, none⟩)) (w.alloc (.cells z.cells ty)) := by
    simp [Instr.alloc, zeroValue, typeInfo, hi, hz, newVar, newRow, Sem.run_bind]
  simp only [ho1, Sem.run_bind, hrun, Result.andThen_ok, Sem.run_pure]
  refine hK _ _ ?_
  refine wpList_plain hg2 fun K' hK' => ?_
  unfold Oper.wp execOp
  have hst : (storeVar ty ⟨w.heap.size, 0, none⟩ v).run P (w.alloc (.cells z.cells ty)) = .ok () (w.alloc (.cells v.cells ty)) := by
    have := run_storeCells_from (P := P) w.heap.size ty v.cells.toList 0 z.cells (w.alloc (.cells z.cells ty)) (heap_alloc_new w _) (by simp; omega) (fun u hu => (Array.all_eq_true_iff_forall_mem.1 h1) u (by simpa using hu))
    simp [storeVar, sizeOf, typeInfo, hi, hvs, this, setRow_alloc]
  simp only [ho2, hx, hy, Instr.storeAt, Instr.sureAddr, Sem.run_bind, Sem.run_pure, Result.andThen_ok, hst]
  exact hK' _ _ h

/-- .. the new world under a name. -/
theorem wpList_new {ops : Array Oper} {rest : List Oper} {o1 o2 : Oper} {a : Act} {w : World} {Q : Exit → Act → World → Prop} (hg1 : o1.guard = none) (hg2 : o2.guard = none) (ty : TypeId) (x y : Operand)
    (ho1 : o1.op = .alloc ty) (ho2 : o2.op = .store ty x y) (i0 : TypeInfo) (z v : Value) (cs : Array Value) (hi : P.info? ty = some i0) (hz : i0.zero = some z) (hzs : z.cells.size = i0.size) (hcs : v.cells = cs) (hvs : cs.size = i0.size)
    (h1 : cs.all (·.oneCell') = true)
    (hx : (a.put o1.dst (.pointer (some ⟨w.heap.size, 0, none⟩))).eval x = .pointer (some ⟨w.heap.size, 0, none⟩)) (hy : (a.put o1.dst (.pointer (some ⟨w.heap.size, 0, none⟩))).eval y = v)
    (h : ∀ w' g, w.heap.size ≤ g → Blk w' g ty cs → Below w.heap.size w w' → wpList P ops Q rest ((a.put o1.dst (.pointer (some ⟨g, 0, none⟩))).put o2.dst undef) w') : wpList P ops Q (o1 :: o2 :: rest) a w := by
  subst hcs
  exact wpList_alloc_store hg1 hg2 ty x y ho1 ho2 i0 z v hi hz hzs hvs h1 hx hy (h _ _ (Nat.le_refl _) (Blk.new w _ _) ((Below.refl _ _).alloc (Nat.le_refl _) _))

theorem run_index_one (w : World) (t e : TypeId) (len : Nat) (cs : Array Value) (kd : IntKind) (i : Nat) (d : TypeDesc) (v : Value) (ht : P.underlying t = some (.array len e)) (he : P.underlying e = some d) (hd : aggD d = false)
    (hsz : (P.info? e).map (·.size) = some 1) (hi : i < len) (hv : cs[i]? = some v) : (Instr.index t (.agg cs) (.int kd (i : Int))).run P w = .ok v w := by
  have hagg : (isAgg e).run P w = .ok false w := by
    unfold isAgg
    rw [Sem.run_bind, run_underlying he w]
    cases d <;> simp_all [aggD]
  cases hq : P.info? e with
  | none => simp [hq] at hsz
  | some i0 =>
    have hs : i0.size = 1 := by simpa [hq] using hsz
    simp [Instr.index, run_underlying ht, hi, sizeOf, typeInfo, hq, hs, part, Sem.run_bind, hagg, asIntOf, hv]

/-- A value boxed, the new world under a name. -/
theorem wpList_box {ops : Array Oper} {rest : List Oper} {o : Oper} {a : Act} {w : World} {Q : Exit → Act → World → Prop} (hgd : o.guard = none) (ty : TypeId) (x : Operand) (ho : o.op = .box ty x) (v : Value) (cs : Array Value) (hv : a.eval x = v) (hcs : v.cells = cs)
    (h : ∀ w' g, w.heap.size ≤ g → Blk w' g ty cs → Below w.heap.size w w' → wpList P ops Q rest (a.put o.dst (.pointer (some ⟨g, 0, none⟩))) w') : wpList P ops Q (o :: rest) a w :=
  wpList_plain hgd fun _ hK => by
    subst hcs
    unfold Oper.wp execOp
    have hrun : (Instr.box ty v).run P w = .ok (.pointer (some ⟨w.heap.size, 0, none⟩)) (w.alloc (.cells v.cells ty)) := by
      simp [Instr.box, newVar, newRow, Sem.run_bind]
    simp only [ho, hv, Sem.run_bind, hrun, Sem.run_pure, Result.andThen_ok]
    exact hK _ _ (h _ _ (Nat.le_refl _) (Blk.new w _ _) ((Below.refl _ _).alloc (Nat.le_refl _) _))
end
/-- A struct's cells behind its first. -/
theorem blk_tail {w : World} {g : Nat} {t : TypeId} {v : Value} {l : List Value} (h : Blk w g t (v :: l).toArray) : ∀ j u, l[j]? = some u → w.cell? ((⟨g, 1, none⟩ : Addr).add j) = some u := by
  intro j u hu
  rw [show (⟨g, 1, none⟩ : Addr).add j = ⟨g, 1 + j, none⟩ from by unfold Addr.add; split <;> simp_all, h.cell (1 + j)]
  rw [Nat.add_comm]
  simpa using hu
theorem blk_list {w : World} {g : Nat} {t : TypeId} {l : List Value} (h : Blk w g t l.toArray) : ∀ j u, l[j]? = some u → w.cell? ((⟨g, 0, none⟩ : Addr).add j) = some u := by
  intro j u hu
  rw [show (⟨g, 0, none⟩ : Addr).add j = ⟨g, j, none⟩ from by unfold Addr.add; split <;> simp_all, h.cell j]
  simpa using hu
end Go.Proofs.Ytepagfkkjlbipaa
end
section
namespace Go.Proofs.Ytepagfkkjlbipaa
open Go.RowKit
set_option linter.unusedVariables false
set_option linter.unusedSimpArgs false
theorem fold_fill : ∀ (l : List Value) (k : Nat) (a : Array Value), k + l.length ≤ a.size → (l.zipIdx k).foldl (fun cs (p : Value × Nat) => cs.setIfInBounds p.2 p.1) a = (a.toList.take k ++ l ++ a.toList.drop (k + l.length)).toArray
  | [], k, a, h => by simp
  | x :: r, k, a, h => by
    have hk : k < a.size := by simp at h; omega
    rw [List.zipIdx_cons, List.foldl_cons, fold_fill r (k + 1) (a.setIfInBounds k x) (by simp at h ⊢; omega)]
    apply congrArg List.toArray
    apply List.ext_getElem?
    intro i
    simp only [Array.toList_setIfInBounds, List.getElem?_append, List.length_take, List.length_set, Array.length_toList, List.length_append, List.length_cons, List.getElem?_take, List.getElem?_set, List.getElem?_drop, List.getElem?_cons]
    rw [show min (k + 1) a.size = k + 1 by omega, show min k a.size = k by omega]
    by_cases h1 : i < k
    · simp [h1, show i < k + 1 by omega, show k ≠ i by omega, show i < k + 1 + r.length by omega, show i < k + (r.length + 1) by omega]
    · by_cases h2 : i = k
      · subst h2
        simp [hk, show i < i + 1 + r.length by omega]
      · by_cases h3 : i < k + (r.length + 1)
        · simp [h1, h3, show ¬ i < k + 1 by omega, show i < k + 1 + r.length by omega, show i - k ≠ 0 by omega, show i - k - 1 = i - (k + 1) by omega]
        · simp [h1, h3, show ¬ i < k + 1 by omega, show ¬ i < k + 1 + r.length by omega, show k ≠ k + 1 + r.length + (i - (k + 1 + r.length)) by omega]
          congr 1; omega
theorem fold_fill_all (c a : Array Value) (h : a.size = c.size) : (c.zipIdx.foldl (fun cs (p : Value × Nat) => cs.setIfInBounds (0 + p.2) p.1) a) = c := by
  rw [← Array.foldl_toList, Array.toList_zipIdx]
  have := fold_fill c.toList 0 a (by simp; omega)
  simp only [Nat.zero_add] at this ⊢
  rw [this, List.drop_of_length_le (by simp; omega)]
  simp
section
variable {P : Program}
theorem run_buildSlice_one (w : World) (t e : TypeId) (i0 : TypeInfo) (z v : Value) (ht : P.underlying t = some (.slice e)) (hi : P.info? e = some i0) (hz : i0.zero = some z) (hs : i0.size ≤ 1024) (h0 : 0 < i0.size) (hv : v.cells.size = i0.size) :
    (Instr.buildSlice t 1 #[(0, v)]).run P w = .ok (.slice (some ⟨w.heap.size, 0, none⟩) 1 1) (w.alloc (.cells v.cells e)) := by
  have hfill : Instr.fill (fun i => some (i * i0.size, i0.size)) ((Array.range (1 * i0.size)).map (z.cells[· % z.cells.size]!)) [(0, v)] = some v.cells := by
    unfold Instr.fill
    have hsz : ((Array.range (1 * i0.size)).map (z.cells[· % z.cells.size]!)).size = v.cells.size := by simp [hv]
    simp only [hv, ne_eq, not_true_eq_false, decide_false, Bool.false_or, Nat.zero_mul]
    rw [if_neg (by simp)]
    unfold Instr.fill
    rw [fold_fill_all v.cells _ hsz]
  have h24 : ¬ (1 * i0.size > 2 ^ 24) := by omega
  have hne : ¬ (1 * i0.size = 0) := by omega
  simp only [Instr.buildSlice, Sem.run_bind, run_underlying ht, Result.andThen_ok, sizeOf, typeInfo]
  simp only [run_program, Sem.run_bind, Result.andThen_ok, hi, Sem.run_pure, if_neg h24, if_neg hne, zeroValue, typeInfo, hz, hfill, newRow, newObj]
  rfl
/-- out = append(out, v). -/
theorem wpList_push {ops : Array Oper} {rest : List Oper} {o1 o2 : Oper} {a : Act} {w : World} {Q : Exit → Act → World → Prop} (hg1 : o1.guard = none) (hg2 : o2.guard = none) (t e : TypeId) (x s y : Operand)
    (ho1 : o1.op = .buildSlice t 1 #[(0, x)]) (ho2 : o2.op = .call { callee := .builtin .append, args := #[s, y], argTypes := #[t, t] })
    (base size bytes : Nat) (i0 : TypeInfo) (z v sv : Value) (cs xs : List Value) (n : Nat) (ht : P.underlying t = some (.slice e)) (hi : P.info? e = some i0) (hz : i0.zero = some z) (hs : i0.size = size) (hb : i0.bytes = bytes)
    (hzs : z.cells.size = size) (h0 : 0 < size) (hs0 : size ≤ 1024) (hx : a.eval x = v) (hcs : v.cells = cs.toArray) (hvs : cs.length = size) (h1 : ∀ u ∈ cs, u.oneCell' = true)
    (hown : w.ownsRow base e size sv n xs) (hbase : base ≤ w.heap.size) (h63 : n + 1 ≤ maxLen) (hbytes : (n + 1) * bytes ≤ 140737488355328)
    (hsv : (a.put o1.dst (.slice (some ⟨w.heap.size, 0, none⟩) 1 1)).eval s = sv) (hy : (a.put o1.dst (.slice (some ⟨w.heap.size, 0, none⟩) 1 1)).eval y = .slice (some ⟨w.heap.size, 0, none⟩) 1 1)
    (h : ∀ v' w' g, w.heap.size ≤ g → w'.ownsRow base e size v' (n + 1) (xs ++ cs) → Below base w w' → w.grownBy w' sv.ownBlock → wpList P ops Q rest ((a.put o1.dst (.slice (some ⟨g, 0, none⟩) 1 1)).put o2.dst v') w') : wpList P ops Q (o1 :: o2 :: rest) a w := by
  subst hs hb
  refine wpList_plain hg1 fun K hK => ?_
  unfold Oper.wp execOp
  have hrun := run_buildSlice_one (P := P) w t e i0 z v ht hi hz hs0 h0 (by rw [hcs]; simpa using hvs)
  simp only [ho1, Sem.run_bind, List.map_toArray, List.map_cons, List.map_nil, hx, hrun, Result.andThen_ok, Sem.run_pure]
  refine hK _ _ ?_
  have hown' := hown.alloc (Obj.cells v.cells e)
  have hnew : Reads (w.alloc (.cells v.cells e)) (w.heap.size + 1) i0.size (some ⟨w.heap.size, 0, none⟩) 1 cs := by
    refine ⟨by omega, fun _ => ⟨_, rfl, Nat.lt_succ_self _, fun j u hu => ?_⟩⟩
    rw [show (⟨w.heap.size, 0, none⟩ : Addr).add j = ⟨w.heap.size, j, none⟩ from by unfold Addr.add; split <;> simp_all]
    rw [(Blk.new w e v.cells).cell j, hcs]
    simpa using hu
  refine wpList_append_any _ hg2 s y t ho2 base e i0 z i0.size i0.bytes ht hi hz rfl rfl hzs h0 sv n xs hsv hown' _ _ 1 1 cs hy hnew h1 h63 hbytes (by simp; omega) fun v' w' q1 q2 q3 => ?_
  have hgr : w.grownBy w' sv.ownBlock := (World.grownBy_alloc w _ sv.ownBlock).trans q2
  exact h v' w' _ (Nat.le_refl _) q1 ((Below.refl _ _).grown hgr hbase (fun g hg => by
    rcases hown.2 with ⟨hsv0, _⟩ | ⟨g', cap, cur, hsv0, hg', _⟩
    · rw [hsv0] at hg; simp [Value.ownBlock] at hg
    · rw [hsv0] at hg; simp [Value.ownBlock] at hg; omega)) hgr
end
end Go.Proofs.Ytepagfkkjlbipaa
end
section
namespace Go.Proofs.Ytepagfkkjlbipaa
open Go.RowKit
set_option linter.unusedVariables false
set_option linter.unusedSimpArgs false
def RowL (w : World) (base : Nat) (e : TypeId) (size : Nat) (v : Value) (n : Nat) (xs : List Value) : Prop :=
  xs.length = n * size ∧ ((v = .slice none 0 0 ∧ n = 0) ∨ ∃ g cap cur, v = .slice (some ⟨g, 0, none⟩) n cap ∧ base ≤ g ∧ w.heap[g]? = some (.cells cur e (0, 0)) ∧ n ≤ cap ∧ cur.toList.take (n * size) = xs ∧ n * size ≤ cur.size)
section
variable {w w' : World} {base : Nat} {e : TypeId} {size : Nat} {v : Value} {n : Nat} {xs : List Value}
theorem RowL.of_own (h : w.ownsRow base e size v n xs) : RowL w base e size v n xs := by
  refine ⟨h.1, ?_⟩
  rcases h.2 with h | ⟨g, cap, cur, h1, h2, h3, h4, _, h6, h7⟩
  · exact .inl h
  · exact .inr ⟨g, cap, cur, h1, h2, h3, h4, h7, by rw [h6]; exact Nat.mul_le_mul_right _ h4⟩
theorem RowL.mono {b : Nat} (h : RowL w base e size v n xs) (hb : b ≤ base) : RowL w b e size v n xs := by
  refine ⟨h.1, ?_⟩
  rcases h.2 with h | ⟨g, cap, cur, h1, h2, h3⟩
  · exact .inl h
  · exact .inr ⟨g, cap, cur, h1, Nat.le_trans hb h2, h3⟩
theorem RowL.ge (h : RowL w base e size v n xs) : ∀ g, v.ownBlock = some g → base ≤ g ∧ g < w.heap.size := by
  intro g hg
  rcases h.2 with ⟨h, _⟩ | ⟨g', cap, cur, h1, h2, h3, _⟩
  · rw [h] at hg; simp [Value.ownBlock] at hg
  · rw [h1] at hg
    simp [Value.ownBlock] at hg
    subst hg
    exact ⟨h2, (Array.getElem?_eq_some_iff.1 h3).1⟩
theorem RowL.block_ (h : RowL w base e size v n xs) (hb : ∀ g, v.ownBlock = some g → w'.heap[g]? = w.heap[g]?) : RowL w' base e size v n xs := by
  refine ⟨h.1, ?_⟩
  rcases h.2 with h | ⟨g, cap, cur, h1, h2, h3, h4⟩
  · exact .inl h
  · exact .inr ⟨g, cap, cur, h1, h2, by rw [hb g (by rw [h1]; rfl)]; exact h3, h4⟩
theorem RowL.grown (h : RowL w base e size v n xs) {row : Option Nat} (hg : w.grownBy w' row) (hne : v.ownBlock = none ∨ v.ownBlock ≠ row) : RowL w' base e size v n xs :=
  h.block_ fun g hv => hg.block g (h.ge g hv).2 (fun e => by
    rcases hne with hn | hn
    · rw [hn] at hv; cases hv
    · exact hn (by rw [hv, e]))
theorem RowL.below (h : RowL w base e size v n xs) (hb : Below w.heap.size w w') : RowL w' base e size v n xs := h.block_ fun g hv => hb.block g (h.ge g hv).2
theorem RowL.drew (h : RowL w base e size v n xs) : RowL w.drew base e size v n xs := h
theorem RowL.slice (h : RowL w base e size v n xs) : ∃ A c, v = .slice A n c ∧ n ≤ c ∧ Reads w w.heap.size size A n xs := by
  rcases h.2 with ⟨rfl, rfl⟩ | ⟨g, cap, cur, rfl, h2, h3, h4, h5, h6⟩
  · exact ⟨none, 0, rfl, Nat.le_refl _, h.1, fun h => absurd h (by omega)⟩
  · refine ⟨_, cap, rfl, h4, h.1, fun hn => ⟨_, rfl, (Array.getElem?_eq_some_iff.1 h3).1, fun j u hu => ?_⟩⟩
    have hj : j < n * size := by have := (List.getElem?_eq_some_iff.1 hu).1; rw [h.1] at this; exact this
    rw [show (⟨g, 0, none⟩ : Addr).add j = ⟨g, j, none⟩ from by unfold Addr.add; split <;> simp_all, cell_of_row w g j cur e (0, 0) h3]
    rw [← h5, List.getElem?_take, if_pos hj] at hu
    simpa using hu
theorem RowL.form (h : RowL w base e size v n xs) (hn : 0 < n) : ∃ g cap, v = .slice (some ⟨g, 0, none⟩) n cap ∧ n ≤ cap ∧ base ≤ g ∧ g < w.heap.size := by
  rcases h.2 with ⟨_, h0⟩ | ⟨g, cap, cur, h1, h2, h3, h4, _⟩
  · omega
  · exact ⟨g, cap, h1, h4, h2, (Array.getElem?_eq_some_iff.1 h3).1⟩
theorem RowL.cut {g cap k : Nat} (h : RowL w base e size (.slice (some ⟨g, 0, none⟩) n cap) n xs) (hk : k ≤ n) : RowL w base e size (.slice (some ⟨g, 0, none⟩) k k) k (xs.take (k * size)) := by
  have hl : k * size ≤ n * size := Nat.mul_le_mul_right _ hk
  refine ⟨by rw [List.length_take, h.1]; omega, ?_⟩
  rcases h.2 with ⟨h', _⟩ | ⟨g', cap', cur, h1, h2, h3, h4, h5, h6⟩
  · simp at h'
  · simp only [Value.slice.injEq, Option.some.injEq, Addr.mk.injEq, and_true, true_and] at h1
    obtain ⟨rfl, rfl⟩ := h1
    exact .inr ⟨g, k, cur, rfl, h2, h3, Nat.le_refl _, by rw [← h5, List.take_take, Nat.min_eq_left hl], by omega⟩
theorem RowL.cell {g cap : Nat} (h : RowL w base e size (.slice (some ⟨g, 0, none⟩) n cap) n xs) (j : Nat) (hj : j < n * size) : w.cell? ⟨g, j, none⟩ = xs[j]? := by
  rcases h.2 with ⟨h', _⟩ | ⟨g', cap', cur, h1, h2, h3, h4, h5, h6⟩
  · simp at h'
  · simp only [Value.slice.injEq, Option.some.injEq, Addr.mk.injEq, and_true, true_and] at h1
    obtain ⟨rfl, rfl⟩ := h1
    rw [cell_of_row w g j cur e (0, 0) h3, ← h5, List.getElem?_take, if_pos hj]
    simp
theorem RowL.frozen {g cap : Nat} (h : RowL w base e size (.slice (some ⟨g, 0, none⟩) n cap) n xs) (j : Nat) : w.frozen? ⟨g, j, none⟩ = false := by
  rcases h.2 with ⟨h', _⟩ | ⟨g', cap', cur, h1, h2, h3, h4, h5, h6⟩
  · simp at h'
  · simp only [Value.slice.injEq, Option.some.injEq, Addr.mk.injEq, and_true, true_and] at h1
    obtain ⟨rfl, rfl⟩ := h1
    exact frozen_of_row w g j cur e h3
theorem RowL.stored {g cap : Nat} (h : RowL w base e size (.slice (some ⟨g, 0, none⟩) n cap) n xs) (j : Nat) (u : Value) :
    RowL (w.setCell ⟨g, j, none⟩ u) base e size (.slice (some ⟨g, 0, none⟩) n cap) n (xs.set j u) ∧ w.grownBy (w.setCell ⟨g, j, none⟩ u) (some g) := by
  rcases h.2 with ⟨h', _⟩ | ⟨g', cap', cur, h1, h2, h3, h4, h5, h6⟩
  · simp at h'
  · simp only [Value.slice.injEq, Option.some.injEq, Addr.mk.injEq, and_true, true_and] at h1
    obtain ⟨rfl, rfl⟩ := h1
    refine ⟨⟨by simpa using h.1, .inr ⟨g, cap, cur.setIfInBounds j u, rfl, h2, heap_setCell_same w g j cur e u h3, h4, ?_, by simpa using h6⟩⟩,
      ⟨rfl, rfl, rfl, by simp, fun k _ hk => heap_setCell_other w ⟨g, j, none⟩ k u (fun e => hk (by simp [e]))⟩⟩
    rw [Array.toList_setIfInBounds, ← h5, List.take_set]
end
end Go.Proofs.Ytepagfkkjlbipaa
end
section
namespace Go.Proofs.Ytepagfkkjlbipaa
open Go.RowKit
set_option linter.unusedVariables false
set_option linter.unusedSimpArgs false
/-- The stamps of a map's entries are lesser than its clock. -/
def Stamped (w : World) (b : Nat) : Prop := ∃ es clock, w.heap[b]? = some (.map es clock) ∧ ∀ e ∈ es.toList, e.born < clock
section
variable {κ : Type} [DecidableEq κ] {P : Program} {k : TypeId} {enc : κ → Value} {V : κ → Prop} {w w' : World} {b n : Nat} {f : κ → Option Value}
omit [DecidableEq κ] in
theorem Stamped.new (w : World) : Stamped (w.alloc (.map #[] 0)) w.heap.size := ⟨#[], 0, (MapKept.heap_alloc w _).1, by simp⟩
omit [DecidableEq κ] in
theorem Stamped.block_ (h : Stamped w b) (hb : w'.heap[b]? = w.heap[b]?) : Stamped w' b := by
  obtain ⟨es, c, h1, h2⟩ := h
  exact ⟨es, c, hb.trans h1, h2⟩
/-- The entry, and the store into it, at a key that is not there. -/
theorem MapIs.entry {t e : TypeId} (h : MapIs P k enc V w b n f) (hst : Stamped w b) (E : KeyEnc P k enc V) (ht : P.underlying t = some (.map k e)) (z : Value) (hz : ∀ w, (zeroValue e).run P w = .ok z w) (x : κ) (hx : V x) (hf : f x = none) :
    ∃ (c : Nat) (w1 : World), (Instr.mapEntry t (.map (some b)) (enc x)).run P w = .ok (.tuple #[z, goInt c]) w1 ∧ w.grownBy w1 (some b) ∧
      ∀ val, ∃ w2, (Instr.entryStore t (.map (some b)) (goInt c) val).run P w1 = .ok () w2 ∧ MapIs P k enc V w2 b (n + 1) (putF f x val) ∧ Stamped w2 b ∧ w.grownBy w2 (some b) := by
  obtain ⟨es, clock, hb, hs, hd, hv, hk⟩ := h
  obtain ⟨es', clock', hb', hlt⟩ := hst
  rw [hb] at hb'
  injection hb' with hb'
  injection hb' with h1 h2
  subst h1 h2
  obtain ⟨l, hl⟩ := E.reads x hx
  have hgr : ∀ o, w.grownBy (ChangeMaps.setBlock w b o) (some b) := fun o => ⟨rfl, rfl, rfl, by simp [ChangeMaps.setBlock], fun i _ hi => ChangeMaps.heap_setBlock_other hb _ (fun e => hi (by rw [e]))⟩
  rcases E.keyed.find w hl es.toList (MapIs.keys E hv) with ⟨h1, h2⟩ | ⟨j, e0, h1, h2, h3⟩
  · refine ⟨clock, ChangeMaps.setBlock w b (.map (es.push ⟨enc x, z, clock⟩) (clock + 1)), by simp [Instr.mapEntry, run_underlying ht, MapKept.run_getObj_map hb, E.keyed.check w false hl, h1, hz, MapKept.run_setObj_map _ hb, Result.andThen, ChangeMaps.setBlock], hgr _, fun val => ?_⟩
    have hw2 := ChangeMaps.heap_setBlock_same hb (.map (es.push ⟨enc x, z, clock⟩) (clock + 1))
    have hidx : (es.push ⟨enc x, z, clock⟩).findIdx? (fun e => ((e.born : Nat) : Int) == ((clock : Nat) : Int)) = some es.size := by
      rw [Go.WideElems.findIdx_arr, Array.toList_push, List.findIdx?_append]
      have h0 : es.toList.findIdx? (fun e => ((e.born : Nat) : Int) == ((clock : Nat) : Int)) = none := by
        rw [List.findIdx?_eq_none_iff]
        intro e he
        have := hlt e he
        simp
        omega
      rw [h0]
      simp
    have hmod : (es.push ⟨enc x, z, clock⟩).modify es.size (fun e => { e with val := val }) = es.push ⟨enc x, val, clock⟩ := by
      apply Array.ext'
      rw [Array.toList_modify, Array.toList_push, Array.toList_push, ← Array.length_toList, Go.WideElems.modify_last]
    have hsb : ∀ o o', ChangeMaps.setBlock (ChangeMaps.setBlock w b o) b o' = ChangeMaps.setBlock w b o' := by
      intro o o'
      simp [ChangeMaps.setBlock]
    refine ⟨ChangeMaps.setBlock w b (.map (es.push ⟨enc x, val, clock⟩) (clock + 1)), ?_, ⟨es.push ⟨enc x, val, clock⟩, clock + 1, ChangeMaps.heap_setBlock_same hb _, by simp; omega, ?_, ?_, ?_⟩, ⟨es.push ⟨enc x, val, clock⟩, clock + 1, ChangeMaps.heap_setBlock_same hb _, ?_⟩, hgr _⟩
    · simp [Instr.entryStore, MapKept.run_getObj_map hw2, asInt, asIntOf, goInt, hidx, hmod, MapKept.run_setObj_map _ hw2, Result.andThen]
      exact hsb _ _
    · simp only [Array.toList_push, List.map_append, List.map_cons, List.map_nil]
      refine List.nodup_append.2 ⟨hd, by simp, ?_⟩
      intro a ha c hc
      simp at hc
      subst hc
      obtain ⟨e1, he1, rfl⟩ := List.mem_map.1 ha
      exact h2 e1 he1
    · intro e1 he1
      simp only [Array.toList_push, List.mem_append, List.mem_singleton] at he1
      rcases he1 with he1 | rfl
      · obtain ⟨y, hy, hke, hfy⟩ := hv e1 he1
        refine ⟨y, hy, hke, ?_⟩
        unfold putF
        rw [if_neg (fun e => h2 e1 he1 (by rw [hke, e])), hfy]
      · exact ⟨x, hx, rfl, by simp [putF]⟩
    · intro y u hy
      unfold putF at hy
      simp only [Array.toList_push, List.mem_append, List.mem_singleton]
      by_cases hyx : y = x
      · exact ⟨hyx ▸ hx, _, .inr rfl, by rw [hyx]⟩
      · rw [if_neg hyx] at hy
        obtain ⟨hy0, e1, he1, hk1⟩ := hk y u hy
        exact ⟨hy0, e1, .inl he1, hk1⟩
    · intro e1 he1
      simp only [Array.toList_push, List.mem_append, List.mem_singleton] at he1
      rcases he1 with he1 | rfl
      · have := hlt e1 he1
        omega
      · dsimp only
        omega
  · exfalso
    have hm0 : e0 ∈ es.toList := List.mem_of_getElem? h2
    obtain ⟨y, hy, hke, hfy⟩ := hv e0 hm0
    have hxy : x = y := E.inj x y hx hy (h3 ▸ hke)
    subst hxy
    rw [hf] at hfy
    cases hfy
end
end Go.Proofs.Ytepagfkkjlbipaa
end
