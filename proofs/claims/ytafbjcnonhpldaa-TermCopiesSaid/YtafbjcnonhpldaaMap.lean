/-
  A map that the call itself has made, as a function of plain keys: made, read, written. Conditions: those written in each statement.
-/
import Derived.Test.YtafbjcnonhpldaaKit
import Derived.Maps.Own
import Derived.Maps.OwnOps
import Derived.DeepKeys5
namespace Go.Proofs.Ytafbjcnonhpldaa
open Go.RowKit
set_option linter.unusedVariables false
set_option linter.unusedSimpArgs false
open Go.Maps (Keyed)

/-- Block b is a map of at most n entries, whose keys are 'enc x' of plain x that may be (V), and that holds 'f x' at each. -/
def MapIs {κ : Type} (P : Program) (k : TypeId) (enc : κ → Value) (V : κ → Prop) (w : World) (b n : Nat) (f : κ → Option Value) : Prop :=
  ∃ es clock, w.heap[b]? = some (.map es clock) ∧ es.size ≤ n ∧ (es.toList.map (·.key)).Nodup ∧ (∀ e ∈ es.toList, ∃ x, V x ∧ e.key = enc x ∧ f x = some e.val) ∧ ∀ x u, f x = some u → V x ∧ ∃ e ∈ es.toList, e.key = enc x

/-- What a key's type is good for. -/
structure KeyEnc {κ : Type} (P : Program) (k : TypeId) (enc : κ → Value) (V : κ → Prop) : Prop where
  keyed : Keyed P k
  reads : ∀ x, V x → ∃ l, keyOf P k (enc x) = some l
  inj : ∀ x y, V x → V y → enc x = enc y → x = y

section
variable {κ : Type} {P : Program} {k : TypeId} {enc : κ → Value} {V : κ → Prop} {w w' : World} {b n : Nat} {f g : κ → Option Value}
theorem MapIs.new (w : World) : MapIs P k enc V (w.alloc (.map #[] 0)) w.heap.size 0 (fun _ => none) :=
  ⟨#[], 0, (MapKept.heap_alloc w _).1, by simp, by simp, by simp, by simp⟩
theorem MapIs.lt (h : MapIs P k enc V w b n f) : b < w.heap.size := by
  obtain ⟨es, c, hb, _⟩ := h
  exact (Array.getElem?_eq_some_iff.1 hb).1
theorem MapIs.mono {n' : Nat} (h : MapIs P k enc V w b n f) (hn : n ≤ n') : MapIs P k enc V w b n' f := by
  obtain ⟨es, c, h1, h2, h3, h4, h5⟩ := h
  exact ⟨es, c, h1, Nat.le_trans h2 hn, h3, h4, h5⟩
theorem MapIs.congr (h : MapIs P k enc V w b n f) (hg : ∀ x, g x = f x) : MapIs P k enc V w b n g := by
  obtain rfl : g = f := funext hg
  exact h
theorem MapIs.block_ (h : MapIs P k enc V w b n f) (hb : w'.heap[b]? = w.heap[b]?) : MapIs P k enc V w' b n f := by
  obtain ⟨es, c, h1, h2⟩ := h
  exact ⟨es, c, hb.trans h1, h2⟩
theorem MapIs.drew (h : MapIs P k enc V w b n f) : MapIs P k enc V w.drew b n f := h
theorem MapIs.drewN (h : MapIs P k enc V w b n f) (m : Nat) : MapIs P k enc V (w.drewN m) b n f := h
theorem MapIs.alloc (h : MapIs P k enc V w b n f) (o : Obj) : MapIs P k enc V (w.alloc o) b n f := h.block_ (Below.heap_alloc w o b h.lt)
theorem MapIs.far (h : MapIs P k enc V w b n f) {p : Addr} (hp : b ≠ p.block) (u : Value) : MapIs P k enc V (w.setCell p u) b n f := h.block_ (Below.heap_setCell w p u b hp)
theorem MapIs.below {B : Nat} (h : MapIs P k enc V w b n f) (hb : Below B w w') (hg : b < B) : MapIs P k enc V w' b n f := h.block_ (hb.block b hg)
theorem MapIs.grown {row : Option Nat} (h : MapIs P k enc V w b n f) (hb : w.grownBy w' row) (hg : some b ≠ row) : MapIs P k enc V w' b n f := h.block_ (hb.block b h.lt hg)

theorem MapIs.keys (E : KeyEnc P k enc V) {es : Array MapEntry} (h : ∀ e ∈ es.toList, ∃ x, V x ∧ e.key = enc x ∧ f x = some e.val) : ∀ e ∈ es.toList, ∃ l, keyOf P k e.key = some l := by
  intro e he
  obtain ⟨x, hv, hk, _⟩ := h e he
  rw [hk]
  exact E.reads x hv

theorem MapIs.look {t e : TypeId} (h : MapIs P k enc V w b n f) (E : KeyEnc P k enc V) (ht : P.underlying t = some (.map k e)) {z : Value} (hz : (zeroValue e).run P w = .ok z w) (x : κ) (hx : V x) (c : Bool) :
    (Instr.lookup t (.map (some b)) (enc x) c).run P w = .ok (if c then .tuple #[(f x).getD z, .bool (f x).isSome] else (f x).getD z) w := by
  obtain ⟨es, clock, hb, hs, hd, hv, hf⟩ := h
  obtain ⟨l, hl⟩ := E.reads x hx
  rcases E.keyed.find w hl es.toList (MapIs.keys E hv) with ⟨h1, h2⟩ | ⟨j, e0, h1, h2, h3⟩
  · have hn : f x = none := by
      cases hq : f x with
      | none => rfl
      | some u =>
        obtain ⟨_, e1, he1, hk1⟩ := hf x u hq
        exact absurd hk1 (h2 e1 he1)
    rw [hn]
    simp [Instr.lookup, run_underlying ht, MapKept.run_getObj_map hb, E.keyed.check w _ hl, h1, hz, Result.andThen]
  · have hm0 : e0 ∈ es.toList := List.mem_of_getElem? h2
    obtain ⟨y, hy, hk, hfy⟩ := hv e0 hm0
    have hxy : x = y := E.inj x y hx hy (h3 ▸ hk)
    subst hxy
    rw [hfy]
    simp [Instr.lookup, run_underlying ht, MapKept.run_getObj_map hb, E.keyed.check w _ hl, h1, Result.andThen]

variable [DecidableEq κ]
def putF (f : κ → Option Value) (x : κ) (v : Value) : κ → Option Value := fun y => if y = x then some v else f y

theorem MapIs.update {t e : TypeId} (h : MapIs P k enc V w b n f) (E : KeyEnc P k enc V) (ht : P.underlying t = some (.map k e)) (hn : n < maxLen) (x : κ) (hx : V x) (v : Value) :
    ∃ w', (Instr.mapUpdate t (.map (some b)) (enc x) v).run P w = .ok () w' ∧ MapIs P k enc V w' b (n + 1) (putF f x v) ∧ w.grownBy w' (some b) := by
  obtain ⟨es, clock, hb, hs, hd, hv, hf⟩ := h
  obtain ⟨l, hl⟩ := E.reads x hx
  have hgr : ∀ o, w.grownBy (ChangeMaps.setBlock w b o) (some b) := fun o => ⟨rfl, rfl, rfl, by simp [ChangeMaps.setBlock], fun i _ hi => ChangeMaps.heap_setBlock_other hb _ (fun e => hi (by rw [e]))⟩
  rcases E.keyed.find w hl es.toList (MapIs.keys E hv) with ⟨h1, h2⟩ | ⟨j, e0, h1, h2, h3⟩
  · refine ⟨_, by simp [Instr.mapUpdate, run_underlying ht, MapKept.run_getObj_map hb, E.keyed.check w false hl, h1, MapKept.run_setObj_map _ hb, Result.andThen]; rfl, ⟨es.push ⟨enc x, v, clock⟩, clock + 1, ChangeMaps.heap_setBlock_same hb _, by simp; omega, ?_, ?_, ?_⟩, hgr _⟩
    · simp only [Array.toList_push, List.map_append, List.map_cons, List.map_nil]
      refine List.nodup_append.2 ⟨hd, by simp, ?_⟩
      intro a ha c hc
      simp at hc
      subst hc
      obtain ⟨e1, he1, rfl⟩ := List.mem_map.1 ha
      exact h2 e1 he1
    · intro e1 he1
      simp only [Array.toList_push, List.mem_append, List.mem_singleton] at he1
      rcases he1 with he1 | rfl
      · obtain ⟨y, hy, hk, hfy⟩ := hv e1 he1
        refine ⟨y, hy, hk, ?_⟩
        unfold putF
        rw [if_neg (fun e => h2 e1 he1 (by rw [hk, e])), hfy]
      · exact ⟨x, hx, rfl, by simp [putF]⟩
    · intro y u hy
      unfold putF at hy
      simp only [Array.toList_push, List.mem_append, List.mem_singleton]
      by_cases hyx : y = x
      · exact ⟨hyx ▸ hx, _, .inr rfl, by rw [hyx]⟩
      · rw [if_neg hyx] at hy
        obtain ⟨hy0, e1, he1, hk1⟩ := hf y u hy
        exact ⟨hy0, e1, .inl he1, hk1⟩
  · have hj : es[j]? = some e0 := by simpa using h2
    have hjl : j < es.toList.length := (List.getElem?_eq_some_iff.1 h2).1
    have hm0 : e0 ∈ es.toList := List.mem_of_getElem? h2
    obtain ⟨y0, hy0, hk0, hfy0⟩ := hv e0 hm0
    have hxy : x = y0 := E.inj x y0 hx hy0 (h3 ▸ hk0)
    subst hxy
    have hlist : (es.modify j (fun e' => { e' with key := enc x, val := v })).toList = es.toList.set j { e0 with key := enc x, val := v } := by
      rw [Array.toList_modify]
      refine List.ext_getElem? fun i => ?_
      rw [List.getElem?_modify, List.getElem?_set]
      by_cases hij : j = i
      · subst hij
        simp [hj]
        simpa using hjl
      · simp [hij]
    have hkeys : (es.toList.set j { e0 with key := enc x, val := v }).map (·.key) = es.toList.map (·.key) := by
      rw [List.map_set]
      refine List.ext_getElem? fun i => ?_
      rw [List.getElem?_set]
      by_cases hij : j = i
      · subst hij
        simp [hj, h3]
        simpa using hjl
      · simp [hij]
    refine ⟨_, by simp [Instr.mapUpdate, run_underlying ht, MapKept.run_getObj_map hb, E.keyed.check w false hl, h1, hj, h3, E.keyed.stays w hl, MapKept.run_setObj_map _ hb, Result.andThen]; rfl, ⟨es.modify j (fun e' => { e' with key := enc x, val := v }), clock, ChangeMaps.heap_setBlock_same hb _, by simp; omega, ?_, ?_, ?_⟩, hgr _⟩
    · rw [hlist, hkeys]; exact hd
    · rw [hlist]
      intro e1 he1
      obtain ⟨i, hi, ex⟩ := List.getElem_of_mem he1
      rw [List.getElem_set] at ex
      split at ex
      · subst ex
        exact ⟨x, hx, rfl, by simp [putF]⟩
      · rename_i hne
        have hi' : i < es.toList.length := by simpa using hi
        have hm1 : e1 ∈ es.toList := ex ▸ List.getElem_mem hi'
        obtain ⟨y, hy, hk, hfy⟩ := hv e1 hm1
        refine ⟨y, hy, hk, ?_⟩
        unfold putF
        rw [if_neg ?_, hfy]
        rintro rfl
        refine hne ?_
        have hp := List.pairwise_iff_getElem.1 hd
        have hk1 : e1.key = e0.key := hk.trans hk0.symm
        have q0 : es.toList[j] = e0 := by have := List.getElem?_eq_getElem hjl; rw [h2] at this; exact (Option.some.inj this).symm
        rcases Nat.lt_trichotomy i j with hlt | heq | hgt
        · refine absurd ?_ (hp i j (by simpa using hi') (by simpa using hjl) hlt)
          simp only [List.getElem_map, ex, q0, hk1]
        · exact heq.symm
        · refine absurd ?_ (hp j i (by simpa using hjl) (by simpa using hi') hgt)
          simp only [List.getElem_map, ex, q0, hk1]
    · rw [hlist]
      intro y u hy
      unfold putF at hy
      by_cases hyx : y = x
      · subst hyx
        exact ⟨hx, { e0 with key := enc y, val := v }, List.mem_iff_getElem.2 ⟨j, by simpa using hjl, by simp⟩, rfl⟩
      · rw [if_neg hyx] at hy
        obtain ⟨hvy, e1, he1, hk1⟩ := hf y u hy
        obtain ⟨i, hi, ex⟩ := List.getElem_of_mem he1
        have hij : j ≠ i := by
          rintro rfl
          have h5 : e1 = e0 := by
            have := List.getElem?_eq_getElem hi
            rw [h2, ex] at this
            exact (Option.some.inj this).symm
          subst h5
          exact hyx (E.inj y x hvy hx (by rw [← hk1, h3]))
        exact ⟨hvy, e1, List.mem_iff_getElem.2 ⟨i, by simpa using hi, by rw [List.getElem_set, if_neg hij, ex]⟩, hk1⟩

omit [DecidableEq κ] in
/-- The read at the operation. -/
theorem wpList_look {ops : Array Oper} {rest : List Oper} {o : Oper} {a : Act} {Q : Exit → Act → World → Prop} (hg : o.guard = none) (m y : Operand) (t : TypeId) (c : Bool) (hop : o.op = Op.lookup t m y c)
    (e : TypeId) (E : KeyEnc P k enc V) (ht : P.underlying t = some (.map k e)) (z : Value) (hz : (zeroValue e).run P w = .ok z w) (h : MapIs P k enc V w b n f) (x : κ) (hx : V x) (hm : a.eval m = .map (some b)) (hy : a.eval y = enc x)
    (hK : wpList P ops Q rest (a.put o.dst (if c then .tuple #[(f x).getD z, .bool (f x).isSome] else (f x).getD z)) w) : wpList P ops Q (o :: rest) a w := by
  refine wpList_plain hg fun K' hK' => ?_
  unfold Oper.wp
  simp [execOp, hop, hm, hy, h.look E ht hz x hx c, Result.andThen]
  exact hK' _ _ hK
omit [DecidableEq κ] in
/-- .. guarded, wanted. -/
theorem wpList_look1w {ops : Array Oper} {rest : List Oper} {o : Oper} {a : Act} {Q : Exit → Act → World → Prop} (hg : Region.wanted o (yielded ops a.tmps) = true) (m y : Operand) (t : TypeId) (hop : o.op = Op.lookup t m y false)
    (e : TypeId) (E : KeyEnc P k enc V) (ht : P.underlying t = some (.map k e)) (z : Value) (hz : (zeroValue e).run P w = .ok z w) (h : MapIs P k enc V w b n f) (x : κ) (hx : V x) (hm : a.eval m = .map (some b)) (hy : a.eval y = enc x)
    (v : Value) (hv : (f x).getD z = v) (hK : wpList P ops Q rest (a.put o.dst v) w) : wpList P ops Q (o :: rest) a w := by
  refine BigFrame.wpList_want hg fun K' hK' => ?_
  subst hv
  unfold Oper.wp
  simp [execOp, hop, hm, hy, h.look E ht hz x hx false, Result.andThen]
  exact hK' _ _ hK
omit [DecidableEq κ] in
/-- .. without 'ok', the value under a name. -/
theorem wpList_look1 {ops : Array Oper} {rest : List Oper} {o : Oper} {a : Act} {Q : Exit → Act → World → Prop} (hg : o.guard = none) (m y : Operand) (t : TypeId) (hop : o.op = Op.lookup t m y false)
    (e : TypeId) (E : KeyEnc P k enc V) (ht : P.underlying t = some (.map k e)) (z : Value) (hz : (zeroValue e).run P w = .ok z w) (h : MapIs P k enc V w b n f) (x : κ) (hx : V x) (hm : a.eval m = .map (some b)) (hy : a.eval y = enc x)
    (v : Value) (hv : (f x).getD z = v) (hK : wpList P ops Q rest (a.put o.dst v) w) : wpList P ops Q (o :: rest) a w := by
  refine wpList_look hg m y t false hop e E ht z hz h x hx hm hy ?_
  subst hv
  simpa using hK
/-- The write at the operation. -/
theorem wpList_put {ops : Array Oper} {rest : List Oper} {o : Oper} {a : Act} {Q : Exit → Act → World → Prop} (hg : o.guard = none) (m y v : Operand) (t : TypeId) (hop : o.op = Op.mapUpdate t m y v)
    (e : TypeId) (E : KeyEnc P k enc V) (ht : P.underlying t = some (.map k e)) (h : MapIs P k enc V w b n f) (hn : n < maxLen) (x : κ) (hx : V x) (val : Value) (hm : a.eval m = .map (some b)) (hy : a.eval y = enc x) (hv : a.eval v = val)
    (hK : ∀ w', MapIs P k enc V w' b (n + 1) (putF f x val) → w.grownBy w' (some b) → wpList P ops Q rest (a.put o.dst undef) w') : wpList P ops Q (o :: rest) a w := by
  refine wpList_plain hg fun K' hK' => ?_
  obtain ⟨w', hrun, r1, r2⟩ := h.update E ht hn x hx val
  unfold Oper.wp
  simp [execOp, hop, hm, hy, hv, hrun, Result.andThen]
  exact hK' _ _ (hK w' r1 r2)
omit [DecidableEq κ] in
/-- A map made, the new world under a name. -/
theorem wpList_makeMap {ops : Array Oper} {rest : List Oper} {o : Oper} {a : Act} {Q : Exit → Act → World → Prop} (enc : κ → Value) (V : κ → Prop) (k : TypeId) (hg : o.guard = none) (t : TypeId) (hop : o.op = Op.makeMap t none)
    (hK : ∀ w' b, w.heap.size ≤ b → MapIs P k enc V w' b 0 (fun _ => none) → Below w.heap.size w w' → wpList P ops Q rest (a.put o.dst (.map (some b))) w') : wpList P ops Q (o :: rest) a w := by
  refine wpList_plain hg fun K' hK' => ?_
  unfold Oper.wp
  have hrun : (Instr.makeMap t none).run P w = .ok (.map (some w.heap.size)) (w.alloc (.map #[] 0)) := rfl
  simp [execOp, hop, hrun, Result.andThen]
  exact hK' _ _ (hK _ _ (Nat.le_refl _) (MapIs.new w) ((Below.refl _ _).alloc (Nat.le_refl _) _))
end
end Go.Proofs.Ytafbjcnonhpldaa
