/-
  Plain words on terms in a pool: which may be put, what a pool is behind it. Conditions: those written in each statement.
  A map that the call itself has made, as a function of plain keys: made, read, written. Conditions: those written in each statement.
  Structs and arrays of integers as keys of a map. Conditions: those written in each statement.
  A map's entry made, and then filled: m[k] = v where the value is reckoned between the two; a key that was not there. Conditions: those written in each statement.
-/
import Derived.Test.YtepagfkkjlbipaaGreatKit
import Derived.Maps.Own
import Derived.Maps.OwnOps
import Derived.DeepKeys5
import Derived.WideKeyEntry
section
namespace Go.Proofs.YtepagfkkjlbipaaGreat
set_option linter.unusedVariables false
set_option linter.unusedSimpArgs false
structure TD where
 kind : Int
 op : Int
 w : Int
 n : Int
 a : Int
 b : Int
 c : Int
deriving DecidableEq
def TD.cells (x : TD) : List Value := [.int .i8 x.kind, .int .i8 x.op, .int .i8 x.w, .int .u64 x.n, .int .i64 x.a, .int .i64 x.b, .int .i64 x.c]
/-- A term's parts. -/
def prtL (t : TD) : List Int := if t.kind = 2 ∨ t.kind = 4 then [t.a, t.b] else if t.kind = 3 then [t.a] else if t.kind = 5 then [t.a, t.b, t.c] else []
def likeT (t : TD) : TD :=
 if t.kind = 0 then ⟨0, 0, 0, t.n, 0, 0, 0⟩
 else if t.kind = 1 then ⟨1, 0, t.w, t.n, 0, 0, 0⟩
 else if t.kind = 2 then ⟨2, t.op, t.w, 0, t.a, t.b, 0⟩
 else if t.kind = 4 then ⟨4, t.op, t.w, 0, t.a, t.b, 0⟩
 else if t.kind = 3 then ⟨3, 0, t.w, 0, t.a, 0, 0⟩
 else if t.kind = 5 then ⟨5, 0, 0, 0, t.a, t.b, t.c⟩
 else ⟨t.kind, 0, 0, 0, 0, 0, 0⟩
def wdB (w : Int) : Bool := w == 8 || (w == 16 || (w == 32 || w == 64))
/-- What else a kind asks. -/
def askT (t : TD) : Bool :=
 if t.kind = 0 then true
 else if t.kind = 1 then wdB t.w
 else if t.kind = 2 then (t.w == 32 || t.w == 64) && (decide (0 ≤ t.op) && decide (t.op ≤ 12))
 else if t.kind = 4 then (t.w == 32 || t.w == 64) && (decide (0 ≤ t.op) && decide (t.op ≤ 10))
 else if t.kind = 3 then t.w != 64 && wdB t.w
 else decide (t.kind = 5)
def okF (t : TD) : Bool := askT t && decide (t = likeT t)
def hasB (T : List TD) (n : Int) : Bool := decide (0 ≤ n) && decide (n < T.length)
def varB (n : Int) (x : TD) : Bool := x.kind == 1 && x.n == n
def wideF (T : List TD) (n : Int) : Option Int := (T.find? (varB n)).map (·.w)
def clashB (T : List TD) (t : TD) : Bool := t.kind == 1 && (match wideF T t.n with | some w => w != t.w | none => false)
def okP (T : List TD) (t : TD) : Bool := okF t && ((prtL t).all (hasB T) && !clashB T t)
def dmax (D : List Int) (l : List Int) : Int := l.foldl (fun d n => max d (D.getD n.toNat 0 + 1)) 1
structure PS where
 T : List TD
 D : List Int
def atT (T : List TD) (t : TD) : Option Nat := T.findIdx? (fun x => decide (x = t))
def putP (p : PS) (t : TD) : PS := if okP p.T t = true ∧ atT p.T t = none ∧ p.T.length < 4000 ∧ dmax p.D (prtL t) ≤ 256 then ⟨p.T ++ [t], p.D ++ [dmax p.D (prtL t)]⟩ else p
def putN (p : PS) (t : TD) : Int × Int :=
 if okP p.T t = false then (0, 2) else match atT p.T t with
  | some i => ((i : Int), 0)
  | none => if 4000 ≤ p.T.length ∨ 256 < dmax p.D (prtL t) then (0, 260) else ((p.T.length : Int), 0)
theorem atT_some {T : List TD} {t : TD} {i : Nat} (h : atT T t = some i) : T[i]? = some t := by
 unfold atT at h
 obtain ⟨hi, hp, _⟩ := List.findIdx?_eq_some_iff_getElem.1 h
 simp at hp
 rw [List.getElem?_eq_getElem hi, hp]
theorem atT_none {T : List TD} {t : TD} (h : atT T t = none) : t ∉ T := by
 intro hm
 unfold atT at h
 rw [List.findIdx?_eq_none_iff] at h
 have := h t hm
 simp at this
/-- A pool that came of puts. -/
structure WfP (p : PS) : Prop where
 len : p.D.length = p.T.length
 few : p.T.length ≤ 4000
 ok : ∀ (i : Nat) (t : TD), p.T[i]? = some t → okF t = true
 part : ∀ (i : Nat) (t : TD), p.T[i]? = some t → ∀ k ∈ prtL t, 0 ≤ k ∧ k < (i : Int)
 deep : ∀ (i : Nat) (t : TD), p.T[i]? = some t → p.D[i]? = some (dmax p.D (prtL t))
 low : ∀ d ∈ p.D, 1 ≤ d ∧ d ≤ 256
 once : ∀ (i j : Nat) (t : TD), p.T[i]? = some t → p.T[j]? = some t → i = j
 wide : ∀ (i j : Nat) (t u : TD), p.T[i]? = some t → p.T[j]? = some u → t.kind = 1 → u.kind = 1 → t.n = u.n → t.w = u.w
theorem WfP.nil : WfP ⟨[], []⟩ := ⟨rfl, by simp, by simp, by simp, by simp, by simp, by simp, by simp⟩
theorem dmax_ge (D : List Int) : ∀ (l : List Int) (d : Int), d ≤ l.foldl (fun d n => max d (D.getD n.toNat 0 + 1)) d
 | [], d => Int.le_refl _
 | x :: r, d => Int.le_trans (Int.le_max_left _ _) (dmax_ge D r _)
theorem one_le_dmax (D : List Int) (l : List Int) : 1 ≤ dmax D l := dmax_ge D l 1
theorem dmax_app {D : List Int} (d' : Int) : ∀ (l : List Int), (∀ k ∈ l, 0 ≤ k ∧ k < (D.length : Int)) → ∀ a, l.foldl (fun d n => max d ((D ++ [d']).getD n.toNat 0 + 1)) a = l.foldl (fun d n => max d (D.getD n.toNat 0 + 1)) a := by
 intro l
 induction l with
 | nil => intro _ a; rfl
 | cons x r ih =>
  intro h a
  have hx := h x (by simp)
  rw [List.foldl_cons, List.foldl_cons, ih (fun k hk => h k (by simp [hk]))]
  congr 2
  rw [List.getD_eq_getElem?_getD, List.getD_eq_getElem?_getD, List.getElem?_append_left (by omega)]
theorem find_app {T : List TD} {n : Int} {t : TD} (h : wideF T n ≠ none) : wideF (T ++ [t]) n = wideF T n := by
 unfold wideF at h ⊢
 rw [List.find?_append]
 cases e : T.find? (varB n) with
 | none => rw [e] at h; exact absurd rfl h
 | some x => rfl
theorem wideF_new {T : List TD} {n : Int} {t : TD} (h : wideF T n = none) : wideF (T ++ [t]) n = if varB n t then some t.w else none := by
 unfold wideF at h ⊢
 rw [List.find?_append]
 cases e : T.find? (varB n) with
 | none =>
  rw [List.find?_singleton]
  cases varB n t <;> rfl
 | some x => rw [e] at h; cases h
theorem wideF_some {T : List TD} {n w : Int} (h : wideF T n = some w) : ∃ (i : Nat) (t : TD), T[i]? = some t ∧ t.kind = 1 ∧ t.n = n ∧ t.w = w := by
 unfold wideF at h
 rw [Option.map_eq_some_iff] at h
 obtain ⟨t, ht, rfl⟩ := h
 have h1 := List.mem_of_find?_eq_some ht
 have h2 := List.find?_some ht
 obtain ⟨i, hi⟩ := List.getElem?_of_mem h1
 unfold varB at h2
 simp at h2
 exact ⟨i, t, hi, h2.1, h2.2, rfl⟩
theorem wideF_none {T : List TD} {n : Int} (h : wideF T n = none) : ∀ t ∈ T, t.kind = 1 → t.n ≠ n := by
 intro t ht hk hn
 unfold wideF at h
 rw [Option.map_eq_none_iff, List.find?_eq_none] at h
 have := h t ht
 unfold varB at this
 simp [hk, hn] at this
theorem WfP.wideF {p : PS} (h : WfP p) {i : Nat} {t : TD} (ht : p.T[i]? = some t) (hk : t.kind = 1) : wideF p.T t.n = some t.w := by
 cases e : Go.Proofs.YtepagfkkjlbipaaGreat.wideF p.T t.n with
 | none => exact absurd rfl (wideF_none e t (List.mem_of_getElem? ht) hk)
 | some w =>
  obtain ⟨j, u, hu, hku, hn, hw⟩ := wideF_some e
  rw [← hw, h.wide i j t u ht hu hk hku hn.symm]
theorem okP_parts {T : List TD} {t : TD} (h : okP T t = true) : okF t = true ∧ (∀ k ∈ prtL t, 0 ≤ k ∧ k < (T.length : Int)) ∧ clashB T t = false := by
 unfold okP at h
 simp only [Bool.and_eq_true, List.all_eq_true, Bool.not_eq_true'] at h
 refine ⟨h.1, fun k hk => ?_, h.2.2⟩
 have := h.2.1 k hk
 unfold hasB at this
 simp at this
 exact this
theorem putP_cases (p : PS) (t : TD) : (putP p t = p ∧ ((okP p.T t = false ∧ putN p t = (0, 2)) ∨ (okP p.T t = true ∧ ∃ i : Nat, p.T[i]? = some t ∧ atT p.T t = some i ∧ putN p t = ((i : Int), 0)) ∨ (okP p.T t = true ∧ atT p.T t = none ∧ (4000 ≤ p.T.length ∨ 256 < dmax p.D (prtL t)) ∧ putN p t = (0, 260)))) ∨
  (okP p.T t = true ∧ atT p.T t = none ∧ p.T.length < 4000 ∧ dmax p.D (prtL t) ≤ 256 ∧ putP p t = ⟨p.T ++ [t], p.D ++ [dmax p.D (prtL t)]⟩ ∧ putN p t = ((p.T.length : Int), 0)) := by
 unfold putP putN
 cases ho : okP p.T t
 ·exact .inl ⟨by simp, .inl ⟨rfl, by simp⟩⟩
 ·cases ha : atT p.T t with
  | some i => exact .inl ⟨by simp, .inr (.inl ⟨rfl, i, atT_some ha, rfl, by simp⟩)⟩
  | none =>
   by_cases hl : 4000 ≤ p.T.length ∨ 256 < dmax p.D (prtL t)
   ·refine .inl ⟨?_, .inr (.inr ⟨rfl, rfl, hl, ?_⟩)⟩
    ·rw [if_neg (by rintro ⟨_, _, h1, h2⟩; omega)]
    ·simp [hl]
   ·refine .inr ⟨rfl, rfl, by omega, by omega, ?_, ?_⟩
    ·rw [if_pos ⟨rfl, rfl, by omega, by omega⟩]
    ·simp [hl]
theorem WfP.put {p : PS} (h : WfP p) (t : TD) : WfP (putP p t) := by
 rcases putP_cases p t with ⟨e, _⟩ | ⟨ho, ha, hl, hd, e, _⟩
 ·rw [e]; exact h
 ·rw [e]
  obtain ⟨h1, h2, h3⟩ := okP_parts ho
  have hnm := atT_none ha
  have hlen := h.len
  have key : ∀ (i : Nat) (u : TD), (p.T ++ [t])[i]? = some u → (p.T[i]? = some u ∧ i < p.T.length) ∨ (i = p.T.length ∧ u = t) := by
   intro i u hu
   rcases Nat.lt_trichotomy i p.T.length with hi | hi | hi
   ·rw [List.getElem?_append_left hi] at hu; exact .inl ⟨hu, hi⟩
   ·subst hi
    simp at hu
    exact .inr ⟨rfl, hu.symm⟩
   ·rw [List.getElem?_eq_none (by simp; omega)] at hu; cases hu
  have dm : ∀ l : List Int, (∀ k ∈ l, 0 ≤ k ∧ k < (p.T.length : Int)) → dmax (p.D ++ [dmax p.D (prtL t)]) l = dmax p.D l := fun l hl => dmax_app (D := p.D) (dmax p.D (prtL t)) l (fun k hk => by have := hl k hk; omega) 1
  have pl : ∀ (i : Nat) (u : TD), p.T[i]? = some u → ∀ k ∈ prtL u, 0 ≤ k ∧ k < (p.T.length : Int) := fun i u hu k hk => by
   have := h.part i u hu k hk
   have := (List.getElem?_eq_some_iff.1 hu).1
   omega
  refine ⟨by simp [hlen], by simp; omega, fun i u hu => ?_, fun i u hu => ?_, fun i u hu => ?_, fun d hd' => ?_, fun i j u hi hj => ?_, fun i j u v hi hj ku kv hn => ?_⟩
  ·rcases key i u hu with ⟨q, _⟩ | ⟨_, rfl⟩
   ·exact h.ok i u q
   ·exact h1
  ·rcases key i u hu with ⟨q, _⟩ | ⟨rfl, rfl⟩
   ·exact h.part i u q
   ·exact h2
  ·dsimp only at hu ⊢
   rcases key i u hu with ⟨q, hi⟩ | ⟨rfl, rfl⟩
   ·rw [List.getElem?_append_left (by omega), dm _ (pl i u q)]
    exact h.deep i u q
   ·rw [dm _ h2, ← hlen]
    simp
  ·dsimp only at hd'
   rw [List.mem_append, List.mem_singleton] at hd'
   rcases hd' with q | rfl
   ·exact h.low d q
   ·exact ⟨one_le_dmax _ _, hd⟩
  ·rcases key i u hi with ⟨q1, l1⟩ | ⟨rfl, rfl⟩ <;> rcases key j _ hj with ⟨q2, l2⟩ | ⟨rfl, e2⟩
   ·exact h.once i j u q1 q2
   ·subst e2; exact absurd (List.mem_of_getElem? q1) hnm
   ·exact absurd (List.mem_of_getElem? q2) hnm
   ·rfl
  ·have cl : ∀ (j : Nat) (v : TD), p.T[j]? = some v → v.kind = 1 → t.kind = 1 → v.n = t.n → v.w = t.w := by
    intro j v hv kv kt hnn
    have := h.wideF hv kv
    unfold clashB at h3
    rw [← hnn, this, kt] at h3
    simpa using h3
   rcases key i u hi with ⟨q1, l1⟩ | ⟨rfl, rfl⟩ <;> rcases key j v hj with ⟨q2, l2⟩ | ⟨rfl, rfl⟩
   ·exact h.wide i j u v q1 q2 ku kv hn
   ·exact cl i u q1 ku kv hn
   ·exact (cl j v q2 kv ku hn.symm).symm
   ·rfl
/-- Terms put one behind the other. -/
def putAll (p : PS) : List TD → PS
 | [] => p
 | t :: r => putAll (putP p t) r
theorem WfP.putAll {p : PS} (h : WfP p) : ∀ l, WfP (putAll p l) := by
 intro l
 induction l generalizing p with
 | nil => exact h
 | cons t r ih => exact ih (h.put t)
end Go.Proofs.YtepagfkkjlbipaaGreat
end
section
namespace Go.Proofs.YtepagfkkjlbipaaGreat
open Go.RowKit
set_option linter.unusedVariables false
set_option linter.unusedSimpArgs false
open Go.Maps (Keyed)

/-- Block b is a map of at most n entries, whose keys are 'enc x' of plain x that may be (V), and that holds 'f x' at each. -/
def MapIs {κ : Type} (P : Program) (k : TypeId) (enc : κ → Value) (V : κ → Prop) (w : World) (b n : Nat) (f : κ → Option Value) : Prop :=
 ∃ es clock, w.heap[b]? = some (.map es clock) ∧ es.size ≤ n ∧ (es.toList.map (·.key)).Nodup ∧ (∀ e ∈ es.toList, ∃ x, V x ∧ e.key = enc x ∧ f x = some e.val) ∧ ∀ x u, f x = some u → V x ∧ ∃ e ∈ es.toList, e.key = enc x

/-- What a key's type is good for. -/
structure KeyEnc {κ : Type} (P : Program) (k : TypeId) (enc : κ → Value) (V : κ → Prop) : Prop where
 keyed : Keyed P k
 reads : ∀ x, V x → ∃ l, keyOf P k (enc x) = some l
 inj : ∀ x y, V x → V y → enc x = enc y → x = y

section
variable {κ : Type} {P : Program} {k : TypeId} {enc : κ → Value} {V : κ → Prop} {w w' : World} {b n : Nat} {f g : κ → Option Value}
theorem MapIs.new (w : World) : MapIs P k enc V (w.alloc (.map #[] 0)) w.heap.size 0 (fun _ => none) :=
 ⟨#[], 0, (MapKept.heap_alloc w _).1, by simp, by simp, by simp, by simp⟩
theorem MapIs.lt (h : MapIs P k enc V w b n f) : b < w.heap.size := by
 obtain ⟨es, c, hb, _⟩ := h
 exact (Array.getElem?_eq_some_iff.1 hb).1
theorem MapIs.mono {n' : Nat} (h : MapIs P k enc V w b n f) (hn : n ≤ n') : MapIs P k enc V w b n' f := by
 obtain ⟨es, c, h1, h2, h3, h4, h5⟩ := h
 exact ⟨es, c, h1, Nat.le_trans h2 hn, h3, h4, h5⟩
theorem MapIs.congr (h : MapIs P k enc V w b n f) (hg : ∀ x, g x = f x) : MapIs P k enc V w b n g := by
 obtain rfl : g = f := funext hg
 exact h
theorem MapIs.block_ (h : MapIs P k enc V w b n f) (hb : w'.heap[b]? = w.heap[b]?) : MapIs P k enc V w' b n f := by
 obtain ⟨es, c, h1, h2⟩ := h
 exact ⟨es, c, hb.trans h1, h2⟩
theorem MapIs.drew (h : MapIs P k enc V w b n f) : MapIs P k enc V w.drew b n f := h
theorem MapIs.drewN (h : MapIs P k enc V w b n f) (m : Nat) : MapIs P k enc V (w.drewN m) b n f := h
theorem MapIs.alloc (h : MapIs P k enc V w b n f) (o : Obj) : MapIs P k enc V (w.alloc o) b n f := h.block_ (Below.heap_alloc w o b h.lt)
theorem MapIs.far (h : MapIs P k enc V w b n f) {p : Addr} (hp : b ≠ p.block) (u : Value) : MapIs P k enc V (w.setCell p u) b n f := h.block_ (Below.heap_setCell w p u b hp)
theorem MapIs.below {B : Nat} (h : MapIs P k enc V w b n f) (hb : Below B w w') (hg : b < B) : MapIs P k enc V w' b n f := h.block_ (hb.block b hg)
theorem MapIs.grown {row : Option Nat} (h : MapIs P k enc V w b n f) (hb : w.grownBy w' row) (hg : some b ≠ row) : MapIs P k enc V w' b n f := h.block_ (hb.block b h.lt hg)

theorem MapIs.keys (E : KeyEnc P k enc V) {es : Array MapEntry} (h : ∀ e ∈ es.toList, ∃ x, V x ∧ e.key = enc x ∧ f x = some e.val) : ∀ e ∈ es.toList, ∃ l, keyOf P k e.key = some l := by
 intro e he
 obtain ⟨x, hv, hk, _⟩ := h e he
 rw [hk]
 exact E.reads x hv

theorem MapIs.look {t e : TypeId} (h : MapIs P k enc V w b n f) (E : KeyEnc P k enc V) (ht : P.underlying t = some (.map k e)) {z : Value} (hz : (zeroValue e).run P w = .ok z w) (x : κ) (hx : V x) (c : Bool) :
  (Instr.lookup t (.map (some b)) (enc x) c).run P w = .ok (if c then .tuple #[(f x).getD z, .bool (f x).isSome] else (f x).getD z) w := by
 obtain ⟨es, clock, hb, hs, hd, hv, hf⟩ := h
 obtain ⟨l, hl⟩ := E.reads x hx
 rcases E.keyed.find w hl es.toList (MapIs.keys E hv) with ⟨h1, h2⟩ | ⟨j, e0, h1, h2, h3⟩
 ·have hn : f x = none := by
   cases hq : f x with
   | none => rfl
   | some u =>
    obtain ⟨_, e1, he1, hk1⟩ := hf x u hq
    exact absurd hk1 (h2 e1 he1)
  rw [hn]
  simp [Instr.lookup, run_underlying ht, MapKept.run_getObj_map hb, E.keyed.check w _ hl, h1, hz, Result.andThen]
 ·have hm0 : e0 ∈ es.toList := List.mem_of_getElem? h2
  obtain ⟨y, hy, hk, hfy⟩ := hv e0 hm0
  have hxy : x = y := E.inj x y hx hy (h3 ▸ hk)
  subst hxy
  rw [hfy]
  simp [Instr.lookup, run_underlying ht, MapKept.run_getObj_map hb, E.keyed.check w _ hl, h1, Result.andThen]

variable [DecidableEq κ]
def putF (f : κ → Option Value) (x : κ) (v : Value) : κ → Option Value := fun y => if y = x then some v else f y

theorem MapIs.update {t e : TypeId} (h : MapIs P k enc V w b n f) (E : KeyEnc P k enc V) (ht : P.underlying t = some (.map k e)) (hn : n < maxLen) (x : κ) (hx : V x) (v : Value) :
  ∃ w', (Instr.mapUpdate t (.map (some b)) (enc x) v).run P w = .ok () w' ∧ MapIs P k enc V w' b (n + 1) (putF f x v) ∧ w.grownBy w' (some b) := by
 obtain ⟨es, clock, hb, hs, hd, hv, hf⟩ := h
 obtain ⟨l, hl⟩ := E.reads x hx
 have hgr : ∀ o, w.grownBy (ChangeMaps.setBlock w b o) (some b) := fun o => ⟨rfl, rfl, rfl, by simp [ChangeMaps.setBlock], fun i _ hi => ChangeMaps.heap_setBlock_other hb _ (fun e => hi (by rw [e]))⟩
 rcases E.keyed.find w hl es.toList (MapIs.keys E hv) with ⟨h1, h2⟩ | ⟨j, e0, h1, h2, h3⟩
 ·refine ⟨_, by simp [Instr.mapUpdate, run_underlying ht, MapKept.run_getObj_map hb, E.keyed.check w false hl, h1, MapKept.run_setObj_map _ hb, Result.andThen]; rfl, ⟨es.push ⟨enc x, v, clock⟩, clock + 1, ChangeMaps.heap_setBlock_same hb _, by simp; omega, ?_, ?_, ?_⟩, hgr _⟩
  ·simp only [Array.toList_push, List.map_append, List.map_cons, List.map_nil]
   refine List.nodup_append.2 ⟨hd, by simp, ?_⟩
   intro a ha c hc
   simp at hc
   subst hc
   obtain ⟨e1, he1, rfl⟩ := List.mem_map.1 ha
   exact h2 e1 he1
  ·intro e1 he1
   simp only [Array.toList_push, List.mem_append, List.mem_singleton] at he1
   rcases he1 with he1 | rfl
   ·obtain ⟨y, hy, hk, hfy⟩ := hv e1 he1
    refine ⟨y, hy, hk, ?_⟩
    unfold putF
    rw [if_neg (fun e => h2 e1 he1 (by rw [hk, e])), hfy]
   ·exact ⟨x, hx, rfl, by simp [putF]⟩
  ·intro y u hy
   unfold putF at hy
   simp only [Array.toList_push, List.mem_append, List.mem_singleton]
   by_cases hyx : y = x
   ·exact ⟨hyx ▸ hx, _, .inr rfl, by rw [hyx]⟩
   ·rw [if_neg hyx] at hy
    obtain ⟨hy0, e1, he1, hk1⟩ := hf y u hy
    exact ⟨hy0, e1, .inl he1, hk1⟩
 ·have hj : es[j]? = some e0 := by simpa using h2
  have hjl : j < es.toList.length := (List.getElem?_eq_some_iff.1 h2).1
  have hm0 : e0 ∈ es.toList := List.mem_of_getElem? h2
  obtain ⟨y0, hy0, hk0, hfy0⟩ := hv e0 hm0
  have hxy : x = y0 := E.inj x y0 hx hy0 (h3 ▸ hk0)
  subst hxy
  have hlist : (es.modify j (fun e' => { e' with key := enc x, val := v })).toList = es.toList.set j { e0 with key := enc x, val := v } := by
   rw [Array.toList_modify]
   refine List.ext_getElem? fun i => ?_
   rw [List.getElem?_modify, List.getElem?_set]
   by_cases hij : j = i
   ·subst hij
    simp [hj]
    simpa using hjl
   ·simp [hij]
  have hkeys : (es.toList.set j { e0 with key := enc x, val := v }).map (·.key) = es.toList.map (·.key) := by
   rw [List.map_set]
   refine List.ext_getElem? fun i => ?_
   rw [List.getElem?_set]
   by_cases hij : j = i
   ·subst hij
    simp [hj, h3]
    simpa using hjl
   ·simp [hij]
  refine ⟨_, by simp [Instr.mapUpdate, run_underlying ht, MapKept.run_getObj_map hb, E.keyed.check w false hl, h1, hj, h3, E.keyed.stays w hl, MapKept.run_setObj_map _ hb, Result.andThen]; rfl, ⟨es.modify j (fun e' => { e' with key := enc x, val := v }), clock, ChangeMaps.heap_setBlock_same hb _, by simp; omega, ?_, ?_, ?_⟩, hgr _⟩
  ·rw [hlist, hkeys]; exact hd
  ·rw [hlist]
   intro e1 he1
   obtain ⟨i, hi, ex⟩ := List.getElem_of_mem he1
   rw [List.getElem_set] at ex
   split at ex
   ·subst ex
    exact ⟨x, hx, rfl, by simp [putF]⟩
   ·rename_i hne
    have hi' : i < es.toList.length := by simpa using hi
    have hm1 : e1 ∈ es.toList := ex ▸ List.getElem_mem hi'
    obtain ⟨y, hy, hk, hfy⟩ := hv e1 hm1
    refine ⟨y, hy, hk, ?_⟩
    unfold putF
    rw [if_neg ?_, hfy]
    rintro rfl
    refine hne ?_
    have hp := List.pairwise_iff_getElem.1 hd
    have hk1 : e1.key = e0.key := hk.trans hk0.symm
    have q0 : es.toList[j] = e0 := by have := List.getElem?_eq_getElem hjl; rw [h2] at this; exact (Option.some.inj this).symm
    rcases Nat.lt_trichotomy i j with hlt | heq | hgt
    ·refine absurd ?_ (hp i j (by simpa using hi') (by simpa using hjl) hlt)
     simp only [List.getElem_map, ex, q0, hk1]
    ·exact heq.symm
    ·refine absurd ?_ (hp j i (by simpa using hjl) (by simpa using hi') hgt)
     simp only [List.getElem_map, ex, q0, hk1]
  ·rw [hlist]
   intro y u hy
   unfold putF at hy
   by_cases hyx : y = x
   ·subst hyx
    exact ⟨hx, { e0 with key := enc y, val := v }, List.mem_iff_getElem.2 ⟨j, by simpa using hjl, by simp⟩, rfl⟩
   ·rw [if_neg hyx] at hy
    obtain ⟨hvy, e1, he1, hk1⟩ := hf y u hy
    obtain ⟨i, hi, ex⟩ := List.getElem_of_mem he1
    have hij : j ≠ i := by
     rintro rfl
     have h5 : e1 = e0 := by
      have := List.getElem?_eq_getElem hi
      rw [h2, ex] at this
      exact (Option.some.inj this).symm
     subst h5
     exact hyx (E.inj y x hvy hx (by rw [← hk1, h3]))
    exact ⟨hvy, e1, List.mem_iff_getElem.2 ⟨i, by simpa using hi, by rw [List.getElem_set, if_neg hij, ex]⟩, hk1⟩

omit [DecidableEq κ] in
/-- The read at the operation. -/
theorem wpList_look {ops : Array Oper} {rest : List Oper} {o : Oper} {a : Act} {Q : Exit → Act → World → Prop} (hg : o.guard = none) (m y : Operand) (t : TypeId) (c : Bool) (hop : o.op = Op.lookup t m y c)
  (e : TypeId) (E : KeyEnc P k enc V) (ht : P.underlying t = some (.map k e)) (z : Value) (hz : (zeroValue e).run P w = .ok z w) (h : MapIs P k enc V w b n f) (x : κ) (hx : V x) (hm : a.eval m = .map (some b)) (hy : a.eval y = enc x)
  (hK : wpList P ops Q rest (a.put o.dst (if c then .tuple #[(f x).getD z, .bool (f x).isSome] else (f x).getD z)) w) : wpList P ops Q (o :: rest) a w := by
 refine wpList_plain hg fun K' hK' => ?_
 unfold Oper.wp
 simp [execOp, hop, hm, hy, h.look E ht hz x hx c, Result.andThen]
 exact hK' _ _ hK
omit [DecidableEq κ] in
/-- .. without 'ok', the value under a name. -/
theorem wpList_look1 {ops : Array Oper} {rest : List Oper} {o : Oper} {a : Act} {Q : Exit → Act → World → Prop} (hg : o.guard = none) (m y : Operand) (t : TypeId) (hop : o.op = Op.lookup t m y false)
  (e : TypeId) (E : KeyEnc P k enc V) (ht : P.underlying t = some (.map k e)) (z : Value) (hz : (zeroValue e).run P w = .ok z w) (h : MapIs P k enc V w b n f) (x : κ) (hx : V x) (hm : a.eval m = .map (some b)) (hy : a.eval y = enc x)
  (v : Value) (hv : (f x).getD z = v) (hK : wpList P ops Q rest (a.put o.dst v) w) : wpList P ops Q (o :: rest) a w := by
 refine wpList_look hg m y t false hop e E ht z hz h x hx hm hy ?_
 subst hv
 simpa using hK
/-- The write at the operation. -/
theorem wpList_put {ops : Array Oper} {rest : List Oper} {o : Oper} {a : Act} {Q : Exit → Act → World → Prop} (hg : o.guard = none) (m y v : Operand) (t : TypeId) (hop : o.op = Op.mapUpdate t m y v)
  (e : TypeId) (E : KeyEnc P k enc V) (ht : P.underlying t = some (.map k e)) (h : MapIs P k enc V w b n f) (hn : n < maxLen) (x : κ) (hx : V x) (val : Value) (hm : a.eval m = .map (some b)) (hy : a.eval y = enc x) (hv : a.eval v = val)
  (hK : ∀ w', MapIs P k enc V w' b (n + 1) (putF f x val) → w.grownBy w' (some b) → wpList P ops Q rest (a.put o.dst undef) w') : wpList P ops Q (o :: rest) a w := by
 refine wpList_plain hg fun K' hK' => ?_
 obtain ⟨w', hrun, r1, r2⟩ := h.update E ht hn x hx val
 unfold Oper.wp
 simp [execOp, hop, hm, hy, hv, hrun, Result.andThen]
 exact hK' _ _ (hK w' r1 r2)
omit [DecidableEq κ] in
/-- A map made, the new world under a name. -/
theorem wpList_makeMap {ops : Array Oper} {rest : List Oper} {o : Oper} {a : Act} {Q : Exit → Act → World → Prop} (enc : κ → Value) (V : κ → Prop) (k : TypeId) (hg : o.guard = none) (t : TypeId) (hop : o.op = Op.makeMap t none)
  (hK : ∀ w' b, w.heap.size ≤ b → MapIs P k enc V w' b 0 (fun _ => none) → Below w.heap.size w w' → wpList P ops Q rest (a.put o.dst (.map (some b))) w') : wpList P ops Q (o :: rest) a w := by
 refine wpList_plain hg fun K' hK' => ?_
 unfold Oper.wp
 have hrun : (Instr.makeMap t none).run P w = .ok (.map (some w.heap.size)) (w.alloc (.map #[] 0)) := rfl
 simp [execOp, hop, hrun, Result.andThen]
 exact hK' _ _ (hK _ _ (Nat.le_refl _) (MapIs.new w) ((Below.refl _ _).alloc (Nat.le_refl _) _))
end
end Go.Proofs.YtepagfkkjlbipaaGreat
end
section
namespace Go.Proofs.YtepagfkkjlbipaaGreat
open Go.RowKit
set_option linter.unusedVariables false
set_option linter.unusedSimpArgs false
theorem mapM_some {α β : Type} (g : α → Option β) : ∀ l : List α, (∀ x ∈ l, ∃ y, g x = some y) → ∃ ys, l.mapM g = some ys
 | [], _ => ⟨[], rfl⟩
 | x :: r, h => by
  obtain ⟨y, hy⟩ := h x (by simp)
  obtain ⟨ys, hys⟩ := mapM_some g r (fun z hz => h z (by simp [hz]))
  exact ⟨y :: ys, by simp [List.mapM_cons, hy, hys]⟩
/-- One cell that is an integer. -/
theorem keyLits_one {P : Program} {m : Nat} {e : TypeId} {q : IntKind} {n : Int} {cs : List Value} {i : Nat} (he : P.underlying e = some (.int q)) (hi : cs[i]? = some (.int q n)) (hw : (Lit.int q n).wf = true) :
  ∃ l, P.keyLits (m + 1) e ((cs.drop i).take 1) = some l := by
 have h1 : (cs.drop i).take 1 = [.int q n] := by
  have hl : i < cs.length := (List.getElem?_eq_some_iff.1 hi).1
  rw [List.drop_eq_getElem_cons hl]
  rw [List.getElem?_eq_getElem hl] at hi
  simp [Option.some.inj hi]
 rw [h1]
 exact ⟨[.int q n], by simp [Program.keyLits, he, hw]⟩
theorem keyOf_struct {P : Program} {k : TypeId} {fs : Array Field} {cs : List Value} (hu : P.underlying k = some (.struct fs)) (hk : P.keyType k = true) (hc : P.cellsOf k = cs.length) (hn : fs.all (·.name != "_") = true)
  (hs : Nat.ble 1 P.types.size = true) (hf : ∀ f ∈ fs.toList, ∃ q n, P.underlying f.type = some (.int q) ∧ P.cellsOf f.type = 1 ∧ cs[f.offset]? = some (.int q n) ∧ (Lit.int q n).wf = true) : ∃ l, keyOf P k (.agg cs.toArray) = some l := by
 obtain ⟨m, hm⟩ : ∃ m, P.types.size = m + 1 := ⟨P.types.size - 1, by have := Nat.le_of_ble_eq_true hs; omega⟩
 obtain ⟨ys, hys⟩ := mapM_some (fun f : Field => P.keyLits (m + 1) f.type ((cs.drop f.offset).take (P.cellsOf f.type))) fs.toList (fun f hfm => by
  obtain ⟨q, n, h1, h2, h3, h4⟩ := hf f hfm
  rw [h2]
  exact keyLits_one h1 h3 h4)
 have hl : P.keyLits (P.types.size + 1) k cs = some ys.flatten := by
  rw [hm]
  unfold Program.keyLits
  simp only [hu, hc, hn, and_self, if_true, hys, Option.map_some]
 have hform : (Value.agg cs.toArray).formed P k = true := by simp [Value.formed, hu, hc]
 refine ⟨.string (keyBytes ys.flatten), ?_⟩
 unfold keyOf
 rw [hu]
 simp only [hk, hform, Bool.and_self, if_true, Value.cells, hl, Option.map_some]
end Go.Proofs.YtepagfkkjlbipaaGreat
end
section
namespace Go.Proofs.YtepagfkkjlbipaaGreat
open Go.RowKit
set_option linter.unusedVariables false
set_option linter.unusedSimpArgs false
/-- The stamps of a map's entries are lesser than its clock. -/
def Stamped (w : World) (b : Nat) : Prop := ∃ es clock, w.heap[b]? = some (.map es clock) ∧ ∀ e ∈ es.toList, e.born < clock
section
variable {κ : Type} [DecidableEq κ] {P : Program} {k : TypeId} {enc : κ → Value} {V : κ → Prop} {w w' : World} {b n : Nat} {f : κ → Option Value}
omit [DecidableEq κ] in
theorem Stamped.new (w : World) : Stamped (w.alloc (.map #[] 0)) w.heap.size := ⟨#[], 0, (MapKept.heap_alloc w _).1, by simp⟩
omit [DecidableEq κ] in
theorem Stamped.block_ (h : Stamped w b) (hb : w'.heap[b]? = w.heap[b]?) : Stamped w' b := by
 obtain ⟨es, c, h1, h2⟩ := h
 exact ⟨es, c, hb.trans h1, h2⟩
/-- The entry, and the store into it, at a key that is not there. -/
theorem MapIs.entry {t e : TypeId} (h : MapIs P k enc V w b n f) (hst : Stamped w b) (E : KeyEnc P k enc V) (ht : P.underlying t = some (.map k e)) (z : Value) (hz : ∀ w, (zeroValue e).run P w = .ok z w) (x : κ) (hx : V x) (hf : f x = none) :
  ∃ (c : Nat) (w1 : World), (Instr.mapEntry t (.map (some b)) (enc x)).run P w = .ok (.tuple #[z, goInt c]) w1 ∧ w.grownBy w1 (some b) ∧
   ∀ val, ∃ w2, (Instr.entryStore t (.map (some b)) (goInt c) val).run P w1 = .ok () w2 ∧ MapIs P k enc V w2 b (n + 1) (putF f x val) ∧ Stamped w2 b ∧ w.grownBy w2 (some b) := by
 obtain ⟨es, clock, hb, hs, hd, hv, hk⟩ := h
 obtain ⟨es', clock', hb', hlt⟩ := hst
 rw [hb] at hb'
 injection hb' with hb'
 injection hb' with h1 h2
 subst h1 h2
 obtain ⟨l, hl⟩ := E.reads x hx
 have hgr : ∀ o, w.grownBy (ChangeMaps.setBlock w b o) (some b) := fun o => ⟨rfl, rfl, rfl, by simp [ChangeMaps.setBlock], fun i _ hi => ChangeMaps.heap_setBlock_other hb _ (fun e => hi (by rw [e]))⟩
 rcases E.keyed.find w hl es.toList (MapIs.keys E hv) with ⟨h1, h2⟩ | ⟨j, e0, h1, h2, h3⟩
 ·refine ⟨clock, ChangeMaps.setBlock w b (.map (es.push ⟨enc x, z, clock⟩) (clock + 1)), by simp [Instr.mapEntry, run_underlying ht, MapKept.run_getObj_map hb, E.keyed.check w false hl, h1, hz, MapKept.run_setObj_map _ hb, Result.andThen, ChangeMaps.setBlock], hgr _, fun val => ?_⟩
  have hw2 := ChangeMaps.heap_setBlock_same hb (.map (es.push ⟨enc x, z, clock⟩) (clock + 1))
  have hidx : (es.push ⟨enc x, z, clock⟩).findIdx? (fun e => ((e.born : Nat) : Int) == ((clock : Nat) : Int)) = some es.size := by
   rw [Go.WideElems.findIdx_arr, Array.toList_push, List.findIdx?_append]
   have h0 : es.toList.findIdx? (fun e => ((e.born : Nat) : Int) == ((clock : Nat) : Int)) = none := by
    rw [List.findIdx?_eq_none_iff]
    intro e he
    have := hlt e he
    simp
    omega
   rw [h0]
   simp
  have hmod : (es.push ⟨enc x, z, clock⟩).modify es.size (fun e => { e with val := val }) = es.push ⟨enc x, val, clock⟩ := by
   apply Array.ext'
   rw [Array.toList_modify, Array.toList_push, Array.toList_push, ← Array.length_toList, Go.WideElems.modify_last]
  have hsb : ∀ o o', ChangeMaps.setBlock (ChangeMaps.setBlock w b o) b o' = ChangeMaps.setBlock w b o' := by
   intro o o'
   simp [ChangeMaps.setBlock]
  refine ⟨ChangeMaps.setBlock w b (.map (es.push ⟨enc x, val, clock⟩) (clock + 1)), ?_, ⟨es.push ⟨enc x, val, clock⟩, clock + 1, ChangeMaps.heap_setBlock_same hb _, by simp; omega, ?_, ?_, ?_⟩, ⟨es.push ⟨enc x, val, clock⟩, clock + 1, ChangeMaps.heap_setBlock_same hb _, ?_⟩, hgr _⟩
  ·simp [Instr.entryStore, MapKept.run_getObj_map hw2, asInt, asIntOf, goInt, hidx, hmod, MapKept.run_setObj_map _ hw2, Result.andThen]
   exact hsb _ _
  ·simp only [Array.toList_push, List.map_append, List.map_cons, List.map_nil]
   refine List.nodup_append.2 ⟨hd, by simp, ?_⟩
   intro a ha c hc
   simp at hc
   subst hc
   obtain ⟨e1, he1, rfl⟩ := List.mem_map.1 ha
   exact h2 e1 he1
  ·intro e1 he1
   simp only [Array.toList_push, List.mem_append, List.mem_singleton] at he1
   rcases he1 with he1 | rfl
   ·obtain ⟨y, hy, hke, hfy⟩ := hv e1 he1
    refine ⟨y, hy, hke, ?_⟩
    unfold putF
    rw [if_neg (fun e => h2 e1 he1 (by rw [hke, e])), hfy]
   ·exact ⟨x, hx, rfl, by simp [putF]⟩
  ·intro y u hy
   unfold putF at hy
   simp only [Array.toList_push, List.mem_append, List.mem_singleton]
   by_cases hyx : y = x
   ·exact ⟨hyx ▸ hx, _, .inr rfl, by rw [hyx]⟩
   ·rw [if_neg hyx] at hy
    obtain ⟨hy0, e1, he1, hk1⟩ := hk y u hy
    exact ⟨hy0, e1, .inl he1, hk1⟩
  ·intro e1 he1
   simp only [Array.toList_push, List.mem_append, List.mem_singleton] at he1
   rcases he1 with he1 | rfl
   ·have := hlt e1 he1
    omega
   ·dsimp only
    omega
 ·exfalso
  have hm0 : e0 ∈ es.toList := List.mem_of_getElem? h2
  obtain ⟨y, hy, hke, hfy⟩ := hv e0 hm0
  have hxy : x = y := E.inj x y hx hy (h3 ▸ hke)
  subst hxy
  rw [hf] at hfy
  cases hfy
end
end Go.Proofs.YtepagfkkjlbipaaGreat
end
