/-
  Parts of the proof of SymbcSound. Conditions: those written in each statement.
-/
import Derived.Test.YtepagfkkjlbipaaGreatKaa
import Derived.Maps.Own
import Derived.Maps.OwnOps
import Derived.DeepKeys5
import Derived.Deep.Slices
import Derived.Deep.Fields
set_option linter.unusedVariables false
set_option linter.unusedSimpArgs false
set_option maxHeartbeats 64000000
set_option maxRecDepth 100000
namespace Go.Proofs.YtepagfkkjlbipaaGreat
section
open Go.RowKit
open Go.Maps (Keyed)
def MapIs {κ : Type} (P : Program) (k : TypeId) (enc : κ → Value) (V : κ → Prop) (w : World) (b n : Nat) (f : κ → Option Value) : Prop :=
 ∃ es clock, w.heap[b]? = some (.map es clock) ∧ es.size ≤ n ∧ (es.toList.map (·.key)).Nodup ∧ (∀ e ∈ es.toList, ∃ x, V x ∧ e.key = enc x ∧ f x = some e.val) ∧ ∀ x u, f x = some u → V x ∧ ∃ e ∈ es.toList, e.key = enc x
structure KeyEnc {κ : Type} (P : Program) (k : TypeId) (enc : κ → Value) (V : κ → Prop) : Prop where
 keyed : Keyed P k
 reads : ∀ x, V x → ∃ l, keyOf P k (enc x) = some l
 inj : ∀ x y, V x → V y → enc x = enc y → x = y
section
variable {κ : Type} {P : Program} {k : TypeId} {enc : κ → Value} {V : κ → Prop} {w w' : World} {b n : Nat} {f g : κ → Option Value}
theorem MapIs.new (w : World) : MapIs P k enc V (w.alloc (.map #[] 0)) w.heap.size 0 (fun _ => none) :=
 ⟨#[], 0, (MapKept.heap_alloc w _).1, by simp, by simp, by simp, by simp⟩
theorem MapIs.lt (h : MapIs P k enc V w b n f) : b < w.heap.size := by
 obtain ⟨es, c, hb, _⟩ := h
 exact (Array.getElem?_eq_some_iff.1 hb).1
theorem MapIs.mono {n' : Nat} (h : MapIs P k enc V w b n f) (hn : n ≤ n') : MapIs P k enc V w b n' f := by
 obtain ⟨es, c, h1, h2, h3, h4, h5⟩ := h
 exact ⟨es, c, h1, Nat.le_trans h2 hn, h3, h4, h5⟩
theorem MapIs.congr (h : MapIs P k enc V w b n f) (hg : ∀ x, g x = f x) : MapIs P k enc V w b n g := by
 obtain rfl : g = f := funext hg
 exact h
theorem MapIs.block_ (h : MapIs P k enc V w b n f) (hb : w'.heap[b]? = w.heap[b]?) : MapIs P k enc V w' b n f := by
 obtain ⟨es, c, h1, h2⟩ := h
 exact ⟨es, c, hb.trans h1, h2⟩
theorem MapIs.drewN (h : MapIs P k enc V w b n f) (m : Nat) : MapIs P k enc V (w.drewN m) b n f := h
theorem MapIs.alloc (h : MapIs P k enc V w b n f) (o : Obj) : MapIs P k enc V (w.alloc o) b n f := h.block_ (Below.heap_alloc w o b h.lt)
theorem MapIs.below {B : Nat} (h : MapIs P k enc V w b n f) (hb : Below B w w') (hg : b < B) : MapIs P k enc V w' b n f := h.block_ (hb.block b hg)
theorem MapIs.grown {row : Option Nat} (h : MapIs P k enc V w b n f) (hb : w.grownBy w' row) (hg : some b ≠ row) : MapIs P k enc V w' b n f := h.block_ (hb.block b h.lt hg)
theorem MapIs.keys (E : KeyEnc P k enc V) {es : Array MapEntry} (h : ∀ e ∈ es.toList, ∃ x, V x ∧ e.key = enc x ∧ f x = some e.val) : ∀ e ∈ es.toList, ∃ l, keyOf P k e.key = some l := by
 intro e he
 obtain ⟨x, hv, hk, _⟩ := h e he
 rw [hk]
 exact E.reads x hv
theorem MapIs.look {t e : TypeId} (h : MapIs P k enc V w b n f) (E : KeyEnc P k enc V) (ht : P.underlying t = some (.map k e)) {z : Value} (hz : (zeroValue e).run P w = .ok z w) (x : κ) (hx : V x) (c : Bool) :
  (Instr.lookup t (.map (some b)) (enc x) c).run P w = .ok (if c then .tuple #[(f x).getD z, .bool (f x).isSome] else (f x).getD z) w := by
 obtain ⟨es, clock, hb, hs, hd, hv, hf⟩ := h
 obtain ⟨l, hl⟩ := E.reads x hx
 rcases E.keyed.find w hl es.toList (MapIs.keys E hv) with ⟨h1, h2⟩ | ⟨j, e0, h1, h2, h3⟩
 ·have hn : f x = none := by
   cases hq : f x with
   | none => rfl
   | some u =>
    obtain ⟨_, e1, he1, hk1⟩ := hf x u hq
    exact absurd hk1 (h2 e1 he1)
  rw [hn]
  simp [Instr.lookup, run_underlying ht, MapKept.run_getObj_map hb, E.keyed.check w _ hl, h1, hz, Result.andThen]
 ·have hm0 : e0 ∈ es.toList := List.mem_of_getElem? h2
  obtain ⟨y, hy, hk, hfy⟩ := hv e0 hm0
  have hxy : x = y := E.inj x y hx hy (h3 ▸ hk)
  subst hxy
  rw [hfy]
  simp [Instr.lookup, run_underlying ht, MapKept.run_getObj_map hb, E.keyed.check w _ hl, h1, Result.andThen]
variable [DecidableEq κ]
def putF (f : κ → Option Value) (x : κ) (v : Value) : κ → Option Value := fun y => if y = x then some v else f y
theorem MapIs.update {t e : TypeId} (h : MapIs P k enc V w b n f) (E : KeyEnc P k enc V) (ht : P.underlying t = some (.map k e)) (hn : n < maxLen) (x : κ) (hx : V x) (v : Value) :
  ∃ w', (Instr.mapUpdate t (.map (some b)) (enc x) v).run P w = .ok () w' ∧ MapIs P k enc V w' b (n + 1) (putF f x v) ∧ w.grownBy w' (some b) := by
 obtain ⟨es, clock, hb, hs, hd, hv, hf⟩ := h
 obtain ⟨l, hl⟩ := E.reads x hx
 have hgr : ∀ o, w.grownBy (ChangeMaps.setBlock w b o) (some b) := fun o => ⟨rfl, rfl, rfl, by simp [ChangeMaps.setBlock], fun i _ hi => ChangeMaps.heap_setBlock_other hb _ (fun e => hi (by rw [e]))⟩
 rcases E.keyed.find w hl es.toList (MapIs.keys E hv) with ⟨h1, h2⟩ | ⟨j, e0, h1, h2, h3⟩
 ·refine ⟨_, by simp [Instr.mapUpdate, run_underlying ht, MapKept.run_getObj_map hb, E.keyed.check w false hl, h1, MapKept.run_setObj_map _ hb, Result.andThen]; rfl, ⟨es.push ⟨enc x, v, clock⟩, clock + 1, ChangeMaps.heap_setBlock_same hb _, by simp; omega, ?_, ?_, ?_⟩, hgr _⟩
  ·simp only [Array.toList_push, List.map_append, List.map_cons, List.map_nil]
   refine List.nodup_append.2 ⟨hd, by simp, ?_⟩
   intro a ha c hc
   simp at hc
   subst hc
   obtain ⟨e1, he1, rfl⟩ := List.mem_map.1 ha
   exact h2 e1 he1
  ·intro e1 he1
   simp only [Array.toList_push, List.mem_append, List.mem_singleton] at he1
   rcases he1 with he1 | rfl
   ·obtain ⟨y, hy, hk, hfy⟩ := hv e1 he1
    refine ⟨y, hy, hk, ?_⟩
    unfold putF
    rw [if_neg (fun e => h2 e1 he1 (by rw [hk, e])), hfy]
   ·exact ⟨x, hx, rfl, by simp [putF]⟩
  ·intro y u hy
   unfold putF at hy
   simp only [Array.toList_push, List.mem_append, List.mem_singleton]
   by_cases hyx : y = x
   ·exact ⟨hyx ▸ hx, _, .inr rfl, by rw [hyx]⟩
   ·rw [if_neg hyx] at hy
    obtain ⟨hy0, e1, he1, hk1⟩ := hf y u hy
    exact ⟨hy0, e1, .inl he1, hk1⟩
 ·have hj : es[j]? = some e0 := by simpa using h2
  have hjl : j < es.toList.length := (List.getElem?_eq_some_iff.1 h2).1
  have hm0 : e0 ∈ es.toList := List.mem_of_getElem? h2
  obtain ⟨y0, hy0, hk0, hfy0⟩ := hv e0 hm0
  have hxy : x = y0 := E.inj x y0 hx hy0 (h3 ▸ hk0)
  subst hxy
  have hlist : (es.modify j (fun e' => { e' with key := enc x, val := v })).toList = es.toList.set j { e0 with key := enc x, val := v } := by
   rw [Array.toList_modify]
   refine List.ext_getElem? fun i => ?_
   rw [List.getElem?_modify, List.getElem?_set]
   by_cases hij : j = i
   ·subst hij
    simp [hj]
    simpa using hjl
   ·simp [hij]
  have hkeys : (es.toList.set j { e0 with key := enc x, val := v }).map (·.key) = es.toList.map (·.key) := by
   rw [List.map_set]
   refine List.ext_getElem? fun i => ?_
   rw [List.getElem?_set]
   by_cases hij : j = i
   ·subst hij
    simp [hj, h3]
    simpa using hjl
   ·simp [hij]
  refine ⟨_, by simp [Instr.mapUpdate, run_underlying ht, MapKept.run_getObj_map hb, E.keyed.check w false hl, h1, hj, h3, E.keyed.stays w hl, MapKept.run_setObj_map _ hb, Result.andThen]; rfl, ⟨es.modify j (fun e' => { e' with key := enc x, val := v }), clock, ChangeMaps.heap_setBlock_same hb _, by simp; omega, ?_, ?_, ?_⟩, hgr _⟩
  ·rw [hlist, hkeys]; exact hd
  ·rw [hlist]
   intro e1 he1
   obtain ⟨i, hi, ex⟩ := List.getElem_of_mem he1
   rw [List.getElem_set] at ex
   split at ex
   ·subst ex
    exact ⟨x, hx, rfl, by simp [putF]⟩
   ·rename_i hne
    have hi' : i < es.toList.length := by simpa using hi
    have hm1 : e1 ∈ es.toList := ex ▸ List.getElem_mem hi'
    obtain ⟨y, hy, hk, hfy⟩ := hv e1 hm1
    refine ⟨y, hy, hk, ?_⟩
    unfold putF
    rw [if_neg ?_, hfy]
    rintro rfl
    refine hne ?_
    have hp := List.pairwise_iff_getElem.1 hd
    have hk1 : e1.key = e0.key := hk.trans hk0.symm
    have q0 : es.toList[j] = e0 := by have := List.getElem?_eq_getElem hjl; rw [h2] at this; exact (Option.some.inj this).symm
    rcases Nat.lt_trichotomy i j with hlt | heq | hgt
    ·refine absurd ?_ (hp i j (by simpa using hi') (by simpa using hjl) hlt)
     simp only [List.getElem_map, ex, q0, hk1]
    ·exact heq.symm
    ·refine absurd ?_ (hp j i (by simpa using hjl) (by simpa using hi') hgt)
     simp only [List.getElem_map, ex, q0, hk1]
  ·rw [hlist]
   intro y u hy
   unfold putF at hy
   by_cases hyx : y = x
   ·subst hyx
    exact ⟨hx, { e0 with key := enc y, val := v }, List.mem_iff_getElem.2 ⟨j, by simpa using hjl, by simp⟩, rfl⟩
   ·rw [if_neg hyx] at hy
    obtain ⟨hvy, e1, he1, hk1⟩ := hf y u hy
    obtain ⟨i, hi, ex⟩ := List.getElem_of_mem he1
    have hij : j ≠ i := by
     rintro rfl
     have h5 : e1 = e0 := by
      have := List.getElem?_eq_getElem hi
      rw [h2, ex] at this
      exact (Option.some.inj this).symm
     subst h5
     exact hyx (E.inj y x hvy hx (by rw [← hk1, h3]))
    exact ⟨hvy, e1, List.mem_iff_getElem.2 ⟨i, by simpa using hi, by rw [List.getElem_set, if_neg hij, ex]⟩, hk1⟩
omit [DecidableEq κ] in
theorem wpList_look {ops : Array Oper} {rest : List Oper} {o : Oper} {a : Act} {Q : Exit → Act → World → Prop} (hg : o.guard = none) (m y : Operand) (t : TypeId) (c : Bool) (hop : o.op = Op.lookup t m y c)
  (e : TypeId) (E : KeyEnc P k enc V) (ht : P.underlying t = some (.map k e)) (z : Value) (hz : (zeroValue e).run P w = .ok z w) (h : MapIs P k enc V w b n f) (x : κ) (hx : V x) (hm : a.eval m = .map (some b)) (hy : a.eval y = enc x)
  (hK : wpList P ops Q rest (a.put o.dst (if c then .tuple #[(f x).getD z, .bool (f x).isSome] else (f x).getD z)) w) : wpList P ops Q (o :: rest) a w := by
 refine wpList_plain hg fun K' hK' => ?_
 unfold Oper.wp
 simp [execOp, hop, hm, hy, h.look E ht hz x hx c, Result.andThen]
 exact hK' _ _ hK
omit [DecidableEq κ] in
theorem wpList_look1 {ops : Array Oper} {rest : List Oper} {o : Oper} {a : Act} {Q : Exit → Act → World → Prop} (hg : o.guard = none) (m y : Operand) (t : TypeId) (hop : o.op = Op.lookup t m y false)
  (e : TypeId) (E : KeyEnc P k enc V) (ht : P.underlying t = some (.map k e)) (z : Value) (hz : (zeroValue e).run P w = .ok z w) (h : MapIs P k enc V w b n f) (x : κ) (hx : V x) (hm : a.eval m = .map (some b)) (hy : a.eval y = enc x)
  (v : Value) (hv : (f x).getD z = v) (hK : wpList P ops Q rest (a.put o.dst v) w) : wpList P ops Q (o :: rest) a w := by
 refine wpList_look hg m y t false hop e E ht z hz h x hx hm hy ?_
 subst hv
 simpa using hK
theorem wpList_put {ops : Array Oper} {rest : List Oper} {o : Oper} {a : Act} {Q : Exit → Act → World → Prop} (hg : o.guard = none) (m y v : Operand) (t : TypeId) (hop : o.op = Op.mapUpdate t m y v)
  (e : TypeId) (E : KeyEnc P k enc V) (ht : P.underlying t = some (.map k e)) (h : MapIs P k enc V w b n f) (hn : n < maxLen) (x : κ) (hx : V x) (val : Value) (hm : a.eval m = .map (some b)) (hy : a.eval y = enc x) (hv : a.eval v = val)
  (hK : ∀ w', MapIs P k enc V w' b (n + 1) (putF f x val) → w.grownBy w' (some b) → wpList P ops Q rest (a.put o.dst undef) w') : wpList P ops Q (o :: rest) a w := by
 refine wpList_plain hg fun K' hK' => ?_
 obtain ⟨w', hrun, r1, r2⟩ := h.update E ht hn x hx val
 unfold Oper.wp
 simp [execOp, hop, hm, hy, hv, hrun, Result.andThen]
 exact hK' _ _ (hK w' r1 r2)
omit [DecidableEq κ] in
theorem wpList_makeMap {ops : Array Oper} {rest : List Oper} {o : Oper} {a : Act} {Q : Exit → Act → World → Prop} (enc : κ → Value) (V : κ → Prop) (k : TypeId) (hg : o.guard = none) (t : TypeId) (hop : o.op = Op.makeMap t none)
  (hK : ∀ w' b, w.heap.size ≤ b → MapIs P k enc V w' b 0 (fun _ => none) → Below w.heap.size w w' → wpList P ops Q rest (a.put o.dst (.map (some b))) w') : wpList P ops Q (o :: rest) a w := by
 refine wpList_plain hg fun K' hK' => ?_
 unfold Oper.wp
 have hrun : (Instr.makeMap t none).run P w = .ok (.map (some w.heap.size)) (w.alloc (.map #[] 0)) := rfl
 simp [execOp, hop, hrun, Result.andThen]
 exact hK' _ _ (hK _ _ (Nat.le_refl _) (MapIs.new w) ((Below.refl _ _).alloc (Nat.le_refl _) _))
end
end
section
open Go.RowKit
theorem mapM_some {α β : Type} (g : α → Option β) : ∀ l : List α, (∀ x ∈ l, ∃ y, g x = some y) → ∃ ys, l.mapM g = some ys
 | [], _ => ⟨[], rfl⟩
 | x :: r, h => by
  obtain ⟨y, hy⟩ := h x (by simp)
  obtain ⟨ys, hys⟩ := mapM_some g r (fun z hz => h z (by simp [hz]))
  exact ⟨y :: ys, by simp [List.mapM_cons, hy, hys]⟩
theorem keyLits_one {P : Program} {m : Nat} {e : TypeId} {q : IntKind} {n : Int} {cs : List Value} {i : Nat} (he : P.underlying e = some (.int q)) (hi : cs[i]? = some (.int q n)) (hw : (Lit.int q n).wf = true) :
  ∃ l, P.keyLits (m + 1) e ((cs.drop i).take 1) = some l := by
 have h1 : (cs.drop i).take 1 = [.int q n] := by
  have hl : i < cs.length := (List.getElem?_eq_some_iff.1 hi).1
  rw [List.drop_eq_getElem_cons hl]
  rw [List.getElem?_eq_getElem hl] at hi
  simp [Option.some.inj hi]
 rw [h1]
 exact ⟨[.int q n], by simp [Program.keyLits, he, hw]⟩
theorem keyOf_struct {P : Program} {k : TypeId} {fs : Array Field} {cs : List Value} (hu : P.underlying k = some (.struct fs)) (hk : P.keyType k = true) (hc : P.cellsOf k = cs.length) (hn : fs.all (·.name != "_") = true)
  (hs : Nat.ble 1 P.types.size = true) (hf : ∀ f ∈ fs.toList, ∃ q n, P.underlying f.type = some (.int q) ∧ P.cellsOf f.type = 1 ∧ cs[f.offset]? = some (.int q n) ∧ (Lit.int q n).wf = true) : ∃ l, keyOf P k (.agg cs.toArray) = some l := by
 obtain ⟨m, hm⟩ : ∃ m, P.types.size = m + 1 := ⟨P.types.size - 1, by have := Nat.le_of_ble_eq_true hs; omega⟩
 obtain ⟨ys, hys⟩ := mapM_some (fun f : Field => P.keyLits (m + 1) f.type ((cs.drop f.offset).take (P.cellsOf f.type))) fs.toList (fun f hfm => by
  obtain ⟨q, n, h1, h2, h3, h4⟩ := hf f hfm
  rw [h2]
  exact keyLits_one h1 h3 h4)
 have hl : P.keyLits (P.types.size + 1) k cs = some ys.flatten := by
  rw [hm]
  unfold Program.keyLits
  simp only [hu, hc, hn, and_self, if_true, hys, Option.map_some]
 have hform : (Value.agg cs.toArray).formed P k = true := by simp [Value.formed, hu, hc]
 refine ⟨.string (keyBytes ys.flatten), ?_⟩
 unfold keyOf
 rw [hu]
 simp only [hk, hform, Bool.and_self, if_true, Value.cells, hl, Option.map_some]
end
section
open Go.RowKit
def aggD : TypeDesc → Bool
 | .struct _ | .array _ _ => true
 | _ => false
section
variable {P : Program}
theorem run_isAgg_ {t : TypeId} {d : TypeDesc} (hu : P.underlying t = some d) (hd : aggD d = true) (w : World) : (isAgg t).run P w = .ok true w := by
 unfold isAgg
 rw [Sem.run_bind, run_underlying hu w]
 cases d <;> simp_all [aggD]
theorem run_loadVar_at (w : World) (ad : Addr) (ty : TypeId) (cs : List Value) (d : TypeDesc) (hc : ∀ j u, cs[j]? = some u → w.cell? (ad.add j) = some u)
  (hu : P.underlying ty = some d) (hd : aggD d = true) (hi : (P.info? ty).map (·.size) = some cs.length) : (loadVar ty ad).run P w = .ok (.agg cs.toArray) w := by
 have hl := run_loadCells_list (P := P) w ad cs hc
 cases hq : P.info? ty with
 | none => simp [hq] at hi
 | some i =>
  have hs : i.size = cs.length := by simpa [hq] using hi
  simp [loadVar, Sem.run_bind, run_isAgg_ hu hd w, sizeOf, typeInfo, hq, hs, hl]
theorem wpList_load_at {ops : Array Oper} {rest : List Oper} {o : Oper} {a : Act} {w : World} {Q : Exit → Act → World → Prop} (hgd : o.guard = none) (ty : TypeId) (x : Operand) (ho : o.op = .load ty x)
  (ad : Addr) (hx : a.eval x = .pointer (some ad)) (cs : List Value) (d : TypeDesc) (hc : ∀ j u, cs[j]? = some u → w.cell? (ad.add j) = some u)
  (hu : P.underlying ty = some d) (hd : aggD d = true) (hi : (P.info? ty).map (·.size) = some cs.length)
  (h : wpList P ops Q rest (a.put o.dst (.agg cs.toArray)) w) : wpList P ops Q (o :: rest) a w :=
 wpList_plain hgd fun _ hK => by
  unfold Oper.wp execOp
  simp only [ho, hx, Instr.loadAt, Instr.sureAddr, Sem.run_bind, Sem.run_pure, Result.andThen_ok, run_loadVar_at w ad ty cs d hc hu hd hi]
  exact hK _ _ h
theorem setRow_alloc (w : World) (cs cs' : Array Value) (t : TypeId) : (w.alloc (.cells cs t)).setRow w.heap.size cs' = w.alloc (.cells cs' t) := by
 unfold World.setRow World.alloc
 congr 1
 refine Array.ext_getElem? fun i => ?_
 rw [Array.getElem?_modify]
 by_cases hi : w.heap.size = i
 ·subst hi; simp
 ·simp [hi, Array.getElem?_push, show i ≠ w.heap.size from fun e => hi e.symm]
theorem wpList_alloc_store {ops : Array Oper} {rest : List Oper} {o1 o2 : Oper} {a : Act} {w : World} {Q : Exit → Act → World → Prop} (hg1 : o1.guard = none) (hg2 : o2.guard = none) (ty : TypeId) (x y : Operand)
  (ho1 : o1.op = .alloc ty) (ho2 : o2.op = .store ty x y) (i0 : TypeInfo) (z v : Value) (hi : P.info? ty = some i0) (hz : i0.zero = some z) (hzs : z.cells.size = i0.size) (hvs : v.cells.size = i0.size) (h1 : v.cells.all (·.oneCell') = true)
  (hx : (a.put o1.dst (.pointer (some ⟨w.heap.size, 0, none⟩))).eval x = .pointer (some ⟨w.heap.size, 0, none⟩)) (hy : (a.put o1.dst (.pointer (some ⟨w.heap.size, 0, none⟩))).eval y = v)
  (h : wpList P ops Q rest ((a.put o1.dst (.pointer (some ⟨w.heap.size, 0, none⟩))).put o2.dst undef) (w.alloc (.cells v.cells ty))) : wpList P ops Q (o1 :: o2 :: rest) a w := by
 refine wpList_plain hg1 fun K hK => ?_
 unfold Oper.wp execOp
 have hrun : (Instr.alloc ty true (.tuple #[])).run P w = .ok (.pointer (some ⟨w.heap.size, 0, none⟩)) (w.alloc (.cells z.cells ty)) := by
  simp [Instr.alloc, zeroValue, typeInfo, hi, hz, newVar, newRow, Sem.run_bind]
 simp only [ho1, Sem.run_bind, hrun, Result.andThen_ok, Sem.run_pure]
 refine hK _ _ ?_
 refine wpList_plain hg2 fun K' hK' => ?_
 unfold Oper.wp execOp
 have hst : (storeVar ty ⟨w.heap.size, 0, none⟩ v).run P (w.alloc (.cells z.cells ty)) = .ok () (w.alloc (.cells v.cells ty)) := by
  have := run_storeCells_from (P := P) w.heap.size ty v.cells.toList 0 z.cells (w.alloc (.cells z.cells ty)) (heap_alloc_new w _) (by simp; omega) (fun u hu => (Array.all_eq_true_iff_forall_mem.1 h1) u (by simpa using hu))
  simp [storeVar, sizeOf, typeInfo, hi, hvs, this, setRow_alloc]
 simp only [ho2, hx, hy, Instr.storeAt, Instr.sureAddr, Sem.run_bind, Sem.run_pure, Result.andThen_ok, hst]
 exact hK' _ _ h
theorem wpList_new {ops : Array Oper} {rest : List Oper} {o1 o2 : Oper} {a : Act} {w : World} {Q : Exit → Act → World → Prop} (hg1 : o1.guard = none) (hg2 : o2.guard = none) (ty : TypeId) (x y : Operand)
  (ho1 : o1.op = .alloc ty) (ho2 : o2.op = .store ty x y) (i0 : TypeInfo) (z v : Value) (cs : Array Value) (hi : P.info? ty = some i0) (hz : i0.zero = some z) (hzs : z.cells.size = i0.size) (hcs : v.cells = cs) (hvs : cs.size = i0.size)
  (h1 : cs.all (·.oneCell') = true)
  (hx : (a.put o1.dst (.pointer (some ⟨w.heap.size, 0, none⟩))).eval x = .pointer (some ⟨w.heap.size, 0, none⟩)) (hy : (a.put o1.dst (.pointer (some ⟨w.heap.size, 0, none⟩))).eval y = v)
  (h : ∀ w' g, w.heap.size ≤ g → Blk w' g ty cs → Below w.heap.size w w' → wpList P ops Q rest ((a.put o1.dst (.pointer (some ⟨g, 0, none⟩))).put o2.dst undef) w') : wpList P ops Q (o1 :: o2 :: rest) a w := by
 subst hcs
 exact wpList_alloc_store hg1 hg2 ty x y ho1 ho2 i0 z v hi hz hzs hvs h1 hx hy (h _ _ (Nat.le_refl _) (Blk.new w _ _) ((Below.refl _ _).alloc (Nat.le_refl _) _))
theorem run_index_one (w : World) (t e : TypeId) (len : Nat) (cs : Array Value) (kd : IntKind) (i : Nat) (d : TypeDesc) (v : Value) (ht : P.underlying t = some (.array len e)) (he : P.underlying e = some d) (hd : aggD d = false)
  (hsz : (P.info? e).map (·.size) = some 1) (hi : i < len) (hv : cs[i]? = some v) : (Instr.index t (.agg cs) (.int kd (i : Int))).run P w = .ok v w := by
 have hagg : (isAgg e).run P w = .ok false w := by
  unfold isAgg
  rw [Sem.run_bind, run_underlying he w]
  cases d <;> simp_all [aggD]
 cases hq : P.info? e with
 | none => simp [hq] at hsz
 | some i0 =>
  have hs : i0.size = 1 := by simpa [hq] using hsz
  simp [Instr.index, run_underlying ht, hi, sizeOf, typeInfo, hq, hs, part, Sem.run_bind, hagg, asIntOf, hv]
theorem wpList_box {ops : Array Oper} {rest : List Oper} {o : Oper} {a : Act} {w : World} {Q : Exit → Act → World → Prop} (hgd : o.guard = none) (ty : TypeId) (x : Operand) (ho : o.op = .box ty x) (v : Value) (cs : Array Value) (hv : a.eval x = v) (hcs : v.cells = cs)
  (h : ∀ w' g, w.heap.size ≤ g → Blk w' g ty cs → Below w.heap.size w w' → wpList P ops Q rest (a.put o.dst (.pointer (some ⟨g, 0, none⟩))) w') : wpList P ops Q (o :: rest) a w :=
 wpList_plain hgd fun _ hK => by
  subst hcs
  unfold Oper.wp execOp
  have hrun : (Instr.box ty v).run P w = .ok (.pointer (some ⟨w.heap.size, 0, none⟩)) (w.alloc (.cells v.cells ty)) := by
   simp [Instr.box, newVar, newRow, Sem.run_bind]
  simp only [ho, hv, Sem.run_bind, hrun, Sem.run_pure, Result.andThen_ok]
  exact hK _ _ (h _ _ (Nat.le_refl _) (Blk.new w _ _) ((Below.refl _ _).alloc (Nat.le_refl _) _))
end
theorem blk_tail {w : World} {g : Nat} {t : TypeId} {v : Value} {l : List Value} (h : Blk w g t (v :: l).toArray) : ∀ j u, l[j]? = some u → w.cell? ((⟨g, 1, none⟩ : Addr).add j) = some u := by
 intro j u hu
 rw [show (⟨g, 1, none⟩ : Addr).add j = ⟨g, 1 + j, none⟩ from by unfold Addr.add; split <;> simp_all, h.cell (1 + j)]
 rw [Nat.add_comm]
 simpa using hu
theorem blk_list {w : World} {g : Nat} {t : TypeId} {l : List Value} (h : Blk w g t l.toArray) : ∀ j u, l[j]? = some u → w.cell? ((⟨g, 0, none⟩ : Addr).add j) = some u := by
 intro j u hu
 rw [show (⟨g, 0, none⟩ : Addr).add j = ⟨g, j, none⟩ from by unfold Addr.add; split <;> simp_all, h.cell j]
 simpa using hu
end
section
open Go.RowKit
theorem fold_fill : ∀ (l : List Value) (k : Nat) (a : Array Value), k + l.length ≤ a.size → (l.zipIdx k).foldl (fun cs (p : Value × Nat) => cs.setIfInBounds p.2 p.1) a = (a.toList.take k ++ l ++ a.toList.drop (k + l.length)).toArray
 | [], k, a, h => by simp
 | x :: r, k, a, h => by
  have hk : k < a.size := by simp at h; omega
  rw [List.zipIdx_cons, List.foldl_cons, fold_fill r (k + 1) (a.setIfInBounds k x) (by simp at h ⊢; omega)]
  apply congrArg List.toArray
  apply List.ext_getElem?
  intro i
  simp only [Array.toList_setIfInBounds, List.getElem?_append, List.length_take, List.length_set, Array.length_toList, List.length_append, List.length_cons, List.getElem?_take, List.getElem?_set, List.getElem?_drop, List.getElem?_cons]
  rw [show min (k + 1) a.size = k + 1 by omega, show min k a.size = k by omega]
  by_cases h1 : i < k
  ·simp [h1, show i < k + 1 by omega, show k ≠ i by omega, show i < k + 1 + r.length by omega, show i < k + (r.length + 1) by omega]
  ·by_cases h2 : i = k
   ·subst h2
    simp [hk, show i < i + 1 + r.length by omega]
   ·by_cases h3 : i < k + (r.length + 1)
    ·simp [h1, h3, show ¬ i < k + 1 by omega, show i < k + 1 + r.length by omega, show i - k ≠ 0 by omega, show i - k - 1 = i - (k + 1) by omega]
    ·simp [h1, h3, show ¬ i < k + 1 by omega, show ¬ i < k + 1 + r.length by omega, show k ≠ k + 1 + r.length + (i - (k + 1 + r.length)) by omega]
     congr 1; omega
theorem fold_fill_all (c a : Array Value) (h : a.size = c.size) : (c.zipIdx.foldl (fun cs (p : Value × Nat) => cs.setIfInBounds (0 + p.2) p.1) a) = c := by
 rw [← Array.foldl_toList, Array.toList_zipIdx]
 have := fold_fill c.toList 0 a (by simp; omega)
 simp only [Nat.zero_add] at this ⊢
 rw [this, List.drop_of_length_le (by simp; omega)]
 simp
section
variable {P : Program}
theorem run_buildSlice_one (w : World) (t e : TypeId) (i0 : TypeInfo) (z v : Value) (ht : P.underlying t = some (.slice e)) (hi : P.info? e = some i0) (hz : i0.zero = some z) (hs : i0.size ≤ 1024) (h0 : 0 < i0.size) (hv : v.cells.size = i0.size) :
  (Instr.buildSlice t 1 #[(0, v)]).run P w = .ok (.slice (some ⟨w.heap.size, 0, none⟩) 1 1) (w.alloc (.cells v.cells e)) := by
 have hfill : Instr.fill (fun i => some (i * i0.size, i0.size)) ((Array.range (1 * i0.size)).map (z.cells[· % z.cells.size]!)) [(0, v)] = some v.cells := by
  unfold Instr.fill
  have hsz : ((Array.range (1 * i0.size)).map (z.cells[· % z.cells.size]!)).size = v.cells.size := by simp [hv]
  simp only [hv, ne_eq, not_true_eq_false, decide_false, Bool.false_or, Nat.zero_mul]
  rw [if_neg (by simp)]
  unfold Instr.fill
  rw [fold_fill_all v.cells _ hsz]
 have h24 : ¬ (1 * i0.size > 2 ^ 24) := by omega
 have hne : ¬ (1 * i0.size = 0) := by omega
 simp only [Instr.buildSlice, Sem.run_bind, run_underlying ht, Result.andThen_ok, sizeOf, typeInfo]
 simp only [run_program, Sem.run_bind, Result.andThen_ok, hi, Sem.run_pure, if_neg h24, if_neg hne, zeroValue, typeInfo, hz, hfill, newRow, newObj]
 rfl
theorem wpList_push {ops : Array Oper} {rest : List Oper} {o1 o2 : Oper} {a : Act} {w : World} {Q : Exit → Act → World → Prop} (hg1 : o1.guard = none) (hg2 : o2.guard = none) (t e : TypeId) (x s y : Operand)
  (ho1 : o1.op = .buildSlice t 1 #[(0, x)]) (ho2 : o2.op = .call { callee := .builtin .append, args := #[s, y], argTypes := #[t, t] })
  (base size bytes : Nat) (i0 : TypeInfo) (z v sv : Value) (cs xs : List Value) (n : Nat) (ht : P.underlying t = some (.slice e)) (hi : P.info? e = some i0) (hz : i0.zero = some z) (hs : i0.size = size) (hb : i0.bytes = bytes)
  (hzs : z.cells.size = size) (h0 : 0 < size) (hs0 : size ≤ 1024) (hx : a.eval x = v) (hcs : v.cells = cs.toArray) (hvs : cs.length = size) (h1 : ∀ u ∈ cs, u.oneCell' = true)
  (hown : w.ownsRow base e size sv n xs) (hbase : base ≤ w.heap.size) (h63 : n + 1 ≤ maxLen) (hbytes : (n + 1) * bytes ≤ 140737488355328)
  (hsv : (a.put o1.dst (.slice (some ⟨w.heap.size, 0, none⟩) 1 1)).eval s = sv) (hy : (a.put o1.dst (.slice (some ⟨w.heap.size, 0, none⟩) 1 1)).eval y = .slice (some ⟨w.heap.size, 0, none⟩) 1 1)
  (h : ∀ v' w' g, w.heap.size ≤ g → w'.ownsRow base e size v' (n + 1) (xs ++ cs) → Below base w w' → w.grownBy w' sv.ownBlock → wpList P ops Q rest ((a.put o1.dst (.slice (some ⟨g, 0, none⟩) 1 1)).put o2.dst v') w') : wpList P ops Q (o1 :: o2 :: rest) a w := by
 subst hs hb
 refine wpList_plain hg1 fun K hK => ?_
 unfold Oper.wp execOp
 have hrun := run_buildSlice_one (P := P) w t e i0 z v ht hi hz hs0 h0 (by rw [hcs]; simpa using hvs)
 simp only [ho1, Sem.run_bind, List.map_toArray, List.map_cons, List.map_nil, hx, hrun, Result.andThen_ok, Sem.run_pure]
 refine hK _ _ ?_
 have hown' := hown.alloc (Obj.cells v.cells e)
 have hnew : Reads (w.alloc (.cells v.cells e)) (w.heap.size + 1) i0.size (some ⟨w.heap.size, 0, none⟩) 1 cs := by
  refine ⟨by omega, fun _ => ⟨_, rfl, Nat.lt_succ_self _, fun j u hu => ?_⟩⟩
  rw [show (⟨w.heap.size, 0, none⟩ : Addr).add j = ⟨w.heap.size, j, none⟩ from by unfold Addr.add; split <;> simp_all]
  rw [(Blk.new w e v.cells).cell j, hcs]
  simpa using hu
 refine wpList_append_any _ hg2 s y t ho2 base e i0 z i0.size i0.bytes ht hi hz rfl rfl hzs h0 sv n xs hsv hown' _ _ 1 1 cs hy hnew h1 h63 hbytes (by simp; omega) fun v' w' q1 q2 q3 => ?_
 have hgr : w.grownBy w' sv.ownBlock := (World.grownBy_alloc w _ sv.ownBlock).trans q2
 exact h v' w' _ (Nat.le_refl _) q1 ((Below.refl _ _).grown hgr hbase (fun g hg => by
  rcases hown.2 with ⟨hsv0, _⟩ | ⟨g', cap, cur, hsv0, hg', _⟩
  ·rw [hsv0] at hg; simp [Value.ownBlock] at hg
  ·rw [hsv0] at hg; simp [Value.ownBlock] at hg; omega)) hgr
end
end
section
open Go.RowKit Go.WideShapes Go.ChangeShapes Go.Deep
def flatFs (g : TypeId → Option (List (Option IntKind))) : List Field → Nat → Option (List (Option IntKind))
 | [], _ => some []
 | f :: r, off => if f.offset = off then (g f.type).bind fun a => (flatFs g r (off + a.length)).map (a ++ ·) else none
def flatK (P : Program) : Nat → TypeId → Option (List (Option IntKind))
 | 0, _ => none
 | m + 1, t =>
  (match P.underlying t with
  | some .bool => some [none]
  | some (.int k) => some [some k]
  | some (.struct fs) => flatFs (flatK P m) fs.toList 0
  | some (.array n e) => (flatK P m e).map fun l => (List.replicate n l).flatten
  | _ => none).bind fun l => if P.cellsOf t = l.length then some l else none
def cellK : Option IntKind → Value → Prop
 | none, v => ∃ b, v = .bool b
 | some k, v => ∃ n, v = .int k n ∧ (Lit.int k n).wf = true
def AllK (ks : List (Option IntKind)) (cs : List Value) : Prop := cs.length = ks.length ∧ ∀ (i : Nat) (k : Option IntKind) (v : Value), ks[i]? = some k → cs[i]? = some v → cellK k v
theorem AllK.append {a b : List (Option IntKind)} {x y : List Value} (h : AllK a x) (g : AllK b y) : AllK (a ++ b) (x ++ y) := by
 refine ⟨by simp [h.1, g.1], fun i k v hk hv => ?_⟩
 rw [List.getElem?_append] at hk hv
 by_cases hi : i < a.length
 ·rw [if_pos hi] at hk
  rw [if_pos (by rw [h.1]; exact hi)] at hv
  exact h.2 i k v hk hv
 ·rw [if_neg hi] at hk
  rw [if_neg (by rw [h.1]; exact hi), h.1] at hv
  exact g.2 _ k v hk hv
theorem AllK.nil : AllK [] [] := ⟨rfl, fun i k v hk _ => by simp at hk⟩
theorem flatK_len {P : Program} {m : Nat} {t : TypeId} {ks : List (Option IntKind)} (h : flatK P m t = some ks) : P.cellsOf t = ks.length := by
 cases m with
 | zero => simp [flatK] at h
 | succ m =>
  unfold flatK at h
  obtain ⟨l, _, h2⟩ := Option.bind_eq_some_iff.1 h
  split at h2
  ·injection h2 with h2; subst h2; assumption
  ·cases h2
theorem flatFs_all {g : TypeId → Option (List (Option IntKind))} {cs : List Value} : ∀ (fs : List Field) (off : Nat) (ks : List (Option IntKind)), (∀ f ∈ fs, ∀ a, g f.type = some a → AllK a ((cs.drop f.offset).take a.length)) → flatFs g fs off = some ks → AllK ks ((cs.drop off).take ks.length)
 | [], off, ks, _, h => by
  simp [flatFs] at h
  subst h
  simpa using AllK.nil
 | f :: r, off, ks, hg, h => by
  unfold flatFs at h
  split at h
  ·rename_i ho
   obtain ⟨a, ha, h2⟩ := Option.bind_eq_some_iff.1 h
   obtain ⟨b, hb, rfl⟩ := Option.map_eq_some_iff.1 h2
   have h1 := hg f (by simp) a ha
   have h3 := flatFs_all r (off + a.length) b (fun f' hf' => hg f' (by simp [hf'])) hb
   rw [ho] at h1
   rw [List.length_append, List.take_add, List.drop_drop]
   exact h1.append h3
  ·cases h
theorem flat_rep {l : List (Option IntKind)} {cs : List Value} : ∀ (n off : Nat), (∀ i, i < n → AllK l ((cs.drop (off + i * l.length)).take l.length)) → AllK (List.replicate n l).flatten ((cs.drop off).take (n * l.length))
 | 0, off, _ => by simpa using AllK.nil
 | n + 1, off, h => by
  have h1 := h 0 (by omega)
  have h2 := flat_rep n (off + l.length) (fun i hi => by
   have := h (i + 1) (by omega)
   rw [Nat.succ_mul] at this
   rwa [show off + l.length + i * l.length = off + (i * l.length + l.length) by omega])
  rw [List.replicate_succ, List.flatten_cons, show (n + 1) * l.length = l.length + n * l.length by rw [Nat.succ_mul]; omega, List.take_add, List.drop_drop]
  rw [Nat.zero_mul, Nat.add_zero] at h1
  exact h1.append h2
section
variable {H : Type} {enc : TypeId × Value → H} {P : Program} {w : World} {base : Nat} {spare : Nat → Bool} {held : Bool}
theorem trod_flat : ∀ (m : Nat) (t : TypeId) (ks : List (Option IntKind)) (fuel : Nat) (cs : List Value) (x : DataW H × List MemPlace), flatK P m t = some ks → DataW.trod enc P w base spare held fuel t cs = some x → AllK ks cs := by
 intro m
 induction m with
 | zero => intro t ks fuel cs x h; simp [flatK] at h
 | succ m ih =>
  intro t ks fuel cs x hk h
  have hlen := flatK_len hk
  unfold flatK at hk
  obtain ⟨l, hl, h2⟩ := Option.bind_eq_some_iff.1 hk
  have hlk : l = ks := by
   split at h2
   ·injection h2
   ·cases h2
  subst hlk
  clear hk h2
  split at hl
  ·rename_i hu
   injection hl with hl
   subst hl
   obtain ⟨b, rfl, _⟩ := DataW.trod_bool hu h
   refine ⟨rfl, fun i k v hk hv => ?_⟩
   cases i with
   | zero => simp at hk hv; subst hk hv; exact ⟨b, rfl⟩
   | succ i => simp at hk
  ·rename_i k0 hu
   injection hl with hl
   subst hl
   obtain ⟨n, rfl, _, hw⟩ := DataW.trod_int hu h
   refine ⟨rfl, fun i k v hk hv => ?_⟩
   cases i with
   | zero => simp at hk hv; subst hk hv; exact ⟨n, rfl, hw⟩
   | succ i => simp at hk
  ·rename_i fs hu
   obtain ⟨xs, n, _, _, hcl, hxl, hg⟩ := DataW.trod_struct hu h
   have := flatFs_all (cs := cs) fs.toList 0 l (fun f hf a ha => by
    obtain ⟨i, hi, rfl⟩ := List.getElem_of_mem hf
    have h1 := hg i _ (by rw [← Array.getElem?_toList]; exact List.getElem?_eq_getElem hi)
    rw [flatK_len ha] at h1
    have hix : i < xs.length := by rw [hxl]; simpa using hi
    rw [List.getElem?_eq_getElem hix] at h1
    exact ih _ a _ _ _ ha h1) hl
   rw [List.drop_zero, List.take_of_length_le (by omega)] at this
   exact this
  ·rename_i n e hu
   obtain ⟨a, ha, rfl⟩ := Option.map_eq_some_iff.1 hl
   obtain ⟨xs, m', _, _, hcl, hxl, hg⟩ := DataW.trod_array hu h
   have hae := flatK_len ha
   have := flat_rep (l := a) (cs := cs) n 0 (fun i hi => by
    have h1 := hg i hi
    rw [hae] at h1
    have hix : i < xs.length := by omega
    rw [List.getElem?_eq_getElem hix] at h1
    rw [Nat.zero_add]
    exact ih _ a _ _ _ ha h1)
   have hn : n * a.length = (List.replicate n a).flatten.length := by simp
   rw [List.drop_zero, List.take_of_length_le (by omega)] at this
   exact this
  ·cases hl
theorem list_of {α : Type} (p : Nat → α → Prop) : ∀ n : Nat, (∀ i, i < n → ∃ x, p i x) → ∃ l : List α, l.length = n ∧ ∀ i x, l[i]? = some x → p i x
 | 0, _ => ⟨[], rfl, fun i x h => by simp at h⟩
 | n + 1, h => by
  obtain ⟨l, hl, hp⟩ := list_of p n (fun i hi => h i (by omega))
  obtain ⟨x, hx⟩ := h n (by omega)
  refine ⟨l ++ [x], by simp [hl], fun i y hy => ?_⟩
  rw [List.getElem?_append] at hy
  split at hy
  ·exact hp i y hy
  ·rename_i hi
   rcases Nat.eq_or_lt_of_le (Nat.not_lt.1 hi) with h1 | h1
   ·rw [← h1] at hy
    simp at hy
    subst hy
    rw [← h1, hl]
    exact hx
   ·rw [List.getElem?_eq_none (by simp; omega)] at hy
    cases hy
theorem flat_inv {β : Type} (m : Nat) : ∀ (l : List (List β)), (∀ x ∈ l, x.length = m) → ∀ (j : Nat) (u : β), l.flatten[j]? = some u → ∃ (k r : Nat) (x : List β), j = k * m + r ∧ l[k]? = some x ∧ x[r]? = some u
 | [], _, j, u, h => by simp at h
 | y :: t, hl, j, u, h => by
  rw [List.flatten_cons, List.getElem?_append] at h
  have hy := hl y (by simp)
  split at h
  ·exact ⟨0, j, y, by omega, rfl, h⟩
  ·obtain ⟨k, r, x, h1, h2, h3⟩ := flat_inv m t (fun z hz => hl z (by simp [hz])) _ u h
   exact ⟨k + 1, r, x, by rw [Nat.succ_mul]; omega, by simpa using h2, h3⟩
theorem open_flat {t e : TypeId} {m fuel : Nat} {ks : List (Option IntKind)} {A : Option Addr} {n c : Nat} {x : DataW H × List MemPlace} (ht : P.underlying t = some (.slice e)) (hf : flatK P m e = some ks) (h0 : 0 < ks.length)
  (h : DataW.trod enc P w base spare held fuel t (Value.slice A n c).cells.toList = some x) : ∃ rows : List (List Value), rows.length = n ∧ (∀ r ∈ rows, AllK ks r) ∧ Reads w w.heap.size ks.length A n rows.flatten ∧ n ≤ c ∧ n ≤ maxLen := by
 rcases open_slice ht h with ⟨hcs, _⟩ | ⟨a, len, cap, mm, nn, D, Pl, hcs, _, hl, hm, hmm, _, hel⟩
 ·simp [Value.cells] at hcs
  obtain ⟨rfl, rfl, rfl⟩ := hcs
  exact ⟨[], rfl, by simp, Reads.none_, Nat.le_refl _, by simp⟩
 ·simp [Value.cells] at hcs
  obtain ⟨rfl, rfl, rfl⟩ := hcs
  have hle : n ≤ mm := by rw [hmm]; split <;> omega
  have hk := flatK_len hf
  obtain ⟨rows, hr, hp⟩ := list_of (fun i r => AllK ks r ∧ ∀ j u, r[j]? = some u → w.cell? ((a.add (i * ks.length)).add j) = some u) n (fun i hi => by
   obtain ⟨cs', hc, ht'⟩ := hel i (by omega)
   have hA := trod_flat m e ks _ _ _ hf ht'
   obtain ⟨_, hcl, hat⟩ := World.cells?_some hc
   rw [hk] at hcl hat
   refine ⟨cs', hA, fun j u hu => ?_⟩
   have hj : j < cs'.length := (List.getElem?_eq_some_iff.1 hu).1
   rw [hat j (by omega), hu])
  have hrl : ∀ r ∈ rows, r.length = ks.length := fun r hr' => by
   obtain ⟨i, hi, rfl⟩ := List.getElem_of_mem hr'
   exact (hp i _ (List.getElem?_eq_getElem hi)).1.1
  refine ⟨rows, hr, fun r hr' => ?_, ⟨?_, fun hn => ⟨a, rfl, ?_, fun j u hu => ?_⟩⟩, hl, by omega⟩
  ·obtain ⟨i, hi, rfl⟩ := List.getElem_of_mem hr'
   exact (hp i _ (List.getElem?_eq_getElem hi)).1
  ·rw [← hr]
   clear hp hr
   induction rows with
   | nil => simp
   | cons y t ih => simp only [List.flatten_cons, List.length_append, List.length_cons]; rw [ih (fun r hr' => hrl r (by simp [hr'])), hrl y (by simp), Nat.succ_mul]; omega
  ·have hi : 0 < rows.length := by omega
   have h1 := hp 0 _ (List.getElem?_eq_getElem hi)
   have h2 : 0 < rows[0].length := by rw [h1.1.1]; exact h0
   have h3 := h1.2 0 _ (List.getElem?_eq_getElem h2)
   have h4 := World.block_lt_of_cell? w _ h3
   rwa [block_of_add, block_of_add] at h4
  ·obtain ⟨k, r, y, rfl, h2, h3⟩ := flat_inv ks.length rows hrl j u hu
   have := (hp k y h2).2 r u h3
   rwa [add_of_add] at this
end
end
end Go.Proofs.YtepagfkkjlbipaaGreat
