/-
  A map's entry made, and then filled: m[k] = v where the value is reckoned between the two; a key that was not there. Conditions: those written in each statement.
-/
import Derived.Test.YtafbjcnonhpldaaMap
import Derived.WideKeyEntry
namespace Go.Proofs.Ytafbjcnonhpldaa
open Go.RowKit
set_option linter.unusedVariables false
set_option linter.unusedSimpArgs false
/-- The stamps of a map's entries are lesser than its clock. -/
def Stamped (w : World) (b : Nat) : Prop := ∃ es clock, w.heap[b]? = some (.map es clock) ∧ ∀ e ∈ es.toList, e.born < clock
section
variable {κ : Type} [DecidableEq κ] {P : Program} {k : TypeId} {enc : κ → Value} {V : κ → Prop} {w w' : World} {b n : Nat} {f : κ → Option Value}
omit [DecidableEq κ] in
theorem Stamped.new (w : World) : Stamped (w.alloc (.map #[] 0)) w.heap.size := ⟨#[], 0, (MapKept.heap_alloc w _).1, by simp⟩
omit [DecidableEq κ] in
theorem Stamped.block_ (h : Stamped w b) (hb : w'.heap[b]? = w.heap[b]?) : Stamped w' b := by
  obtain ⟨es, c, h1, h2⟩ := h
  exact ⟨es, c, hb.trans h1, h2⟩
/-- The entry, and the store into it, at a key that is not there. -/
theorem MapIs.entry {t e : TypeId} (h : MapIs P k enc V w b n f) (hst : Stamped w b) (E : KeyEnc P k enc V) (ht : P.underlying t = some (.map k e)) (z : Value) (hz : ∀ w, (zeroValue e).run P w = .ok z w) (x : κ) (hx : V x) (hf : f x = none) :
    ∃ (c : Nat) (w1 : World), (Instr.mapEntry t (.map (some b)) (enc x)).run P w = .ok (.tuple #[z, goInt c]) w1 ∧ w.grownBy w1 (some b) ∧
      ∀ val, ∃ w2, (Instr.entryStore t (.map (some b)) (goInt c) val).run P w1 = .ok () w2 ∧ MapIs P k enc V w2 b (n + 1) (putF f x val) ∧ Stamped w2 b ∧ w.grownBy w2 (some b) := by
  obtain ⟨es, clock, hb, hs, hd, hv, hk⟩ := h
  obtain ⟨es', clock', hb', hlt⟩ := hst
  rw [hb] at hb'
  injection hb' with hb'
  injection hb' with h1 h2
  subst h1 h2
  obtain ⟨l, hl⟩ := E.reads x hx
  have hgr : ∀ o, w.grownBy (ChangeMaps.setBlock w b o) (some b) := fun o => ⟨rfl, rfl, rfl, by simp [ChangeMaps.setBlock], fun i _ hi => ChangeMaps.heap_setBlock_other hb _ (fun e => hi (by rw [e]))⟩
  rcases E.keyed.find w hl es.toList (MapIs.keys E hv) with ⟨h1, h2⟩ | ⟨j, e0, h1, h2, h3⟩
  · refine ⟨clock, ChangeMaps.setBlock w b (.map (es.push ⟨enc x, z, clock⟩) (clock + 1)), by simp [Instr.mapEntry, run_underlying ht, MapKept.run_getObj_map hb, E.keyed.check w false hl, h1, hz, MapKept.run_setObj_map _ hb, Result.andThen, ChangeMaps.setBlock], hgr _, fun val => ?_⟩
    have hw2 := ChangeMaps.heap_setBlock_same hb (.map (es.push ⟨enc x, z, clock⟩) (clock + 1))
    have hidx : (es.push ⟨enc x, z, clock⟩).findIdx? (fun e => ((e.born : Nat) : Int) == ((clock : Nat) : Int)) = some es.size := by
      rw [Go.WideElems.findIdx_arr, Array.toList_push, List.findIdx?_append]
      have h0 : es.toList.findIdx? (fun e => ((e.born : Nat) : Int) == ((clock : Nat) : Int)) = none := by
        rw [List.findIdx?_eq_none_iff]
        intro e he
        have := hlt e he
        simp
        omega
      rw [h0]
      simp
    have hmod : (es.push ⟨enc x, z, clock⟩).modify es.size (fun e => { e with val := val }) = es.push ⟨enc x, val, clock⟩ := by
      apply Array.ext'
      rw [Array.toList_modify, Array.toList_push, Array.toList_push, ← Array.length_toList, Go.WideElems.modify_last]
    have hsb : ∀ o o', ChangeMaps.setBlock (ChangeMaps.setBlock w b o) b o' = ChangeMaps.setBlock w b o' := by
      intro o o'
      simp [ChangeMaps.setBlock]
    refine ⟨ChangeMaps.setBlock w b (.map (es.push ⟨enc x, val, clock⟩) (clock + 1)), ?_, ⟨es.push ⟨enc x, val, clock⟩, clock + 1, ChangeMaps.heap_setBlock_same hb _, by simp; omega, ?_, ?_, ?_⟩, ⟨es.push ⟨enc x, val, clock⟩, clock + 1, ChangeMaps.heap_setBlock_same hb _, ?_⟩, hgr _⟩
    · simp [Instr.entryStore, MapKept.run_getObj_map hw2, asInt, asIntOf, goInt, hidx, hmod, MapKept.run_setObj_map _ hw2, Result.andThen]
      exact hsb _ _
    · simp only [Array.toList_push, List.map_append, List.map_cons, List.map_nil]
      refine List.nodup_append.2 ⟨hd, by simp, ?_⟩
      intro a ha c hc
      simp at hc
      subst hc
      obtain ⟨e1, he1, rfl⟩ := List.mem_map.1 ha
      exact h2 e1 he1
    · intro e1 he1
      simp only [Array.toList_push, List.mem_append, List.mem_singleton] at he1
      rcases he1 with he1 | rfl
      · obtain ⟨y, hy, hke, hfy⟩ := hv e1 he1
        refine ⟨y, hy, hke, ?_⟩
        unfold putF
        rw [if_neg (fun e => h2 e1 he1 (by rw [hke, e])), hfy]
      · exact ⟨x, hx, rfl, by simp [putF]⟩
    · intro y u hy
      unfold putF at hy
      simp only [Array.toList_push, List.mem_append, List.mem_singleton]
      by_cases hyx : y = x
      · exact ⟨hyx ▸ hx, _, .inr rfl, by rw [hyx]⟩
      · rw [if_neg hyx] at hy
        obtain ⟨hy0, e1, he1, hk1⟩ := hk y u hy
        exact ⟨hy0, e1, .inl he1, hk1⟩
    · intro e1 he1
      simp only [Array.toList_push, List.mem_append, List.mem_singleton] at he1
      rcases he1 with he1 | rfl
      · have := hlt e1 he1
        omega
      · dsimp only
        omega
  · exfalso
    have hm0 : e0 ∈ es.toList := List.mem_of_getElem? h2
    obtain ⟨y, hy, hke, hfy⟩ := hv e0 hm0
    have hxy : x = y := E.inj x y hx hy (h3 ▸ hke)
    subst hxy
    rw [hf] at hfy
    cases hfy
end
end Go.Proofs.Ytafbjcnonhpldaa
