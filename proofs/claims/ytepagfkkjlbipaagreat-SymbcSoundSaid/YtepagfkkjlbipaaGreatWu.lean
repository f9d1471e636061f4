/-
  Going through a block: what its terms' values are while what is brought becomes known. Conditions: those written in each statement.
-/
import Derived.Test.YtepagfkkjlbipaaGreatKbc
set_option linter.unusedVariables false
set_option linter.unusedSimpArgs false
set_option maxHeartbeats 64000000
set_option maxRecDepth 100000
namespace Go.Proofs.YtepagfkkjlbipaaGreat
open Go.RowKit
def mOf (V r0 : List Int) (ins : List ID) (j : Nat) : VM := goVV V ⟨r0, [], 0⟩ (ins.take j)
theorem mOf_succ (V r0 : List Int) {ins : List ID} {j : Nat} {y : ID} (hy : ins[j]? = some y) : mOf V r0 ins (j + 1) = stepV V (mOf V r0 ins j) y := by
 unfold mOf
 rw [List.take_add_one, hy, goVV_app]
 rfl
theorem mOf_all (V r0 : List Int) (ins : List ID) : mOf V r0 ins ins.length = goVV V ⟨r0, [], 0⟩ ins := by unfold mOf; rw [List.take_length]
theorem goVV_more (vs : List Int) : ∀ (l : List ID) (m : VM), (goVV vs m l).n ≤ m.n + l.length
 | [], m => Nat.le_refl _
 | x :: r, m => by
  have h := goVV_more vs r (stepV vs m x)
  have h2 := stepV_more vs m x
  show (goVV vs (stepV vs m x) r).n ≤ _
  simp only [List.length_cons]
  split at h2 <;> omega
theorem mOf_n (V r0 : List Int) (ins : List ID) (j : Nat) : (mOf V r0 ins j).n ≤ j := by
 have h := goVV_more V (ins.take j) ⟨r0, [], 0⟩
 have h2 : (ins.take j).length ≤ j := by rw [List.length_take]; omega
 have h0 : (⟨r0, [], 0⟩ : VM).n = 0 := rfl
 unfold mOf
 omega
theorem mOf_set (V r0 : List Int) (ins : List ID) (j : Nat) {k : Nat} (hk : (mOf V r0 ins j).n ≤ k) (v : Int) : mOf (V.set (38 + 3 * k) v) r0 ins j = mOf V r0 ins j := by
 unfold mOf at hk ⊢
 refine (goVV_congr (ins.take j) ⟨r0, [], 0⟩ fun i _ hi => ?_).symm
 rw [List.getD_eq_getElem?_getD, List.getD_eq_getElem?_getD, List.getElem?_set_ne (by omega)]
structure Sg (l ins : List ID) (f : Nat) (r0 : List Int) (q : List (Int × List Int)) (j : Nat) (V : List Int) (Tj : List TrE) : Prop where
 len : V.length = 260
 u64 : ∀ v ∈ V, U64 v
 t11 : V.take 11 = r0
 regs : ∀ p, q[j]? = some p → (mOf V r0 ins j).regs = p.2
 path : j < q.length → Path l (q.drop j) Tj
 place : ∀ p, q[j]? = some p → j < ins.length → p.1 = ((f + j : Nat) : Int)
 prev : ∀ p', 0 < j → q[j]? = some p' → ∃ y r tr, ins[j - 1]? = some y ∧ RegOk r ∧ MStep y ((f + (j - 1) : Nat) : Int) r p'.1 p'.2 tr
 back : ∀ x p, j = ins.length → ins[j - 1]? = some x → x.kind = 6 → q[j - 1]? = some p → (mOf V r0 ins j).regs = p.2
structure SgH (l ins : List ID) (b f i : Nat) (x : ID) (q : List (Int × List Int)) : Prop where
 pr : PrF l
 bk : BkN l b f i x
 insE : ins = insOf l (blkAt l b)
 long : ins.length ≤ q.length
 fin : ins.length < q.length ∨ x.kind = 6
section
variable {l ins : List ID} {b f i : Nat} {x : ID} {q : List (Int × List Int)} {r0 : List Int} {j : Nat} {V : List Int} {Tj : List TrE}
theorem SgH.blk (h : SgH l ins b f i x q) : blkAt l b = ⟨(f : Int), (i : Int) + 1, nextOf (begB l) b i x⟩ := by
 unfold blkAt
 rw [Int.toNat_natCast, List.getD_eq_getElem?_getD, h.bk.at_]
 rfl
theorem SgH.len (h : SgH l ins b f i x q) : ins.length = i + 1 - f := by
 have hi := h.bk.in_
 have hle := h.bk.le
 rw [h.insE, h.blk]
 unfold insOf
 rw [List.length_take, List.length_drop]
 dsimp only
 omega
theorem SgH.at_ (h : SgH l ins b f i x q) {j : Nat} (hj : j < ins.length) : ins[j]? = l[f + j]? := by
 have hl := h.len
 rw [h.insE, h.blk]
 unfold insOf
 dsimp only
 rw [List.getElem?_take_of_lt (by omega), List.getElem?_drop, Int.toNat_natCast]
theorem SgH.last (h : SgH l ins b f i x q) : ins[ins.length - 1]? = some x := by
 have hl := h.len
 have hle := h.bk.le
 rw [h.at_ (by omega), show f + (ins.length - 1) = i by omega]
 exact h.bk.ins
theorem SgH.pos (h : SgH l ins b f i x q) : 0 < ins.length := by
 have hl := h.len
 have hle := h.bk.le
 omega
theorem Sg.start {r : List Int} {V : List Int} {T : List TrE} (h : SgH l ins b f i x q) (h0 : q[0]? = some ((f : Int), r0)) (hp : Path l q T) (hV : V.length = 260) (hu : ∀ v ∈ V, U64 v) (ht : V.take 11 = r0) : Sg l ins f r0 q 0 V T := by
 refine ⟨hV, hu, ht, fun p e => ?_, fun _ => by rw [List.drop_zero]; exact hp, fun p e _ => ?_, fun p' e => absurd e (Nat.lt_irrefl _), fun x p e => by have := h.pos; omega⟩
 ·rw [h0] at e; rw [← Option.some.inj e]; rfl
 ·rw [h0] at e; rw [← Option.some.inj e, Nat.add_zero]
theorem drop_two {α : Type} {q : List α} {j : Nat} {p p' : α} (h : q[j]? = some p) (h' : q[j + 1]? = some p') : q.drop j = p :: p' :: q.drop (j + 2) := by
 obtain ⟨h1, e1⟩ := List.getElem?_eq_some_iff.1 h
 obtain ⟨h2, e2⟩ := List.getElem?_eq_some_iff.1 h'
 rw [List.drop_eq_getElem_cons h1, List.drop_eq_getElem_cons h2, e1, e2]
theorem Sg.step (h : SgH l ins b f i x q) (hs : Sg l ins f r0 q j V Tj) {y : ID} (hj : j < ins.length) (hy : ins[j]? = some y) (hq : j + 1 < q.length) (M : MayF y) :
  ∃ p p' tr T', q[j]? = some p ∧ q[j + 1]? = some p' ∧ Tj = tr ++ T' ∧ p.1 = ((f + j : Nat) : Int) ∧ RegOk p.2 ∧ (mOf V r0 ins j).regs = p.2 ∧ MStep y ((f + j : Nat) : Int) p.2 p'.1 p'.2 tr ∧ RegOk p'.2 ∧
   (¬ (y.kind = 1 ∨ y.kind = 5) → Sg l ins f r0 q (j + 1) V T') ∧
   (y.kind = 1 → Sg l ins f r0 q (j + 1) (V.set (38 + 3 * (mOf V r0 ins j).n) (regV p'.2 y.dst)) T') ∧
   (y.kind = 5 → Sg l ins f r0 q (j + 1) (V.set (38 + 3 * (mOf V r0 ins j).n) (regV p'.2 0)) T') := by
 obtain ⟨p, hp⟩ : ∃ p, q[j]? = some p := ⟨q[j]'(by omega), List.getElem?_eq_getElem (by omega)⟩
 obtain ⟨p', hp'⟩ : ∃ p, q[j + 1]? = some p := ⟨q[j + 1]'hq, List.getElem?_eq_getElem hq⟩
 have hpa := hs.path (by omega)
 rw [drop_two hp hp'] at hpa
 obtain ⟨i0, y0, tr, T', e0, hy0, ho, hst, rfl, hpn⟩ := hpa.next
 have hpl := hs.place p hp hj
 obtain rfl : i0 = f + j := by rw [hpl] at e0; exact (Int.ofNat.inj e0).symm
 have hyy : y0 = y := by
  rw [h.at_ hj, hy0] at hy
  exact Option.some.inj hy
 subst hyy
 have ho' : RegOk p'.2 := by
  obtain ⟨_, _, _, _, ho'⟩ := hpn.head
  exact ho'
 have hr := hs.regs p hp
 have hn := mOf_n V r0 ins j
 have h64 : ins.length ≤ 64 := by
  have := h.len
  have := h.bk.in_
  have := h.pr.le
  omega
 have hpn' : Path l (q.drop (j + 1)) T' := by
  obtain ⟨h2, e2⟩ := List.getElem?_eq_some_iff.1 hp'
  rw [List.drop_eq_getElem_cons h2, e2]
  exact hpn
 have hplace : ∀ p2, q[j + 1]? = some p2 → j + 1 < ins.length → p2.1 = ((f + (j + 1) : Nat) : Int) := fun p2 e hlt => by
  rw [hp'] at e
  obtain rfl := Option.some.inj e
  have hin := h.bk.inner (j := f + j) (y := y0) (by omega) (by have := h.len; omega) hy0
  have := step_next hst hin
  omega
 have hback : ∀ W x2 p2, j + 1 = ins.length → ins[j + 1 - 1]? = some x2 → x2.kind = 6 → q[j + 1 - 1]? = some p2 → (mOf W r0 ins (j + 1)).regs = p2.2 := fun W x2 p2 _ e1 e2 _ => by
  exfalso
  rw [Nat.add_sub_cancel, hy] at e1
  obtain rfl := Option.some.inj e1
  rcases hst with ⟨k, _⟩ | ⟨k, _⟩ | ⟨k, _⟩ | ⟨k, _⟩ | ⟨k, _⟩ | ⟨k, _⟩ <;> omega
 have key : ∀ W, mOf W r0 ins j = mOf V r0 ins j → (y0.kind = 1 → bringV W (mOf V r0 ins j).n (8 * y0.size) = regV p'.2 y0.dst) → (y0.kind = 5 → bringV W (mOf V r0 ins j).n 64 = regV p'.2 0) → W.length = 260 → (∀ v ∈ W, U64 v) → W.take 11 = r0 → Sg l ins f r0 q (j + 1) W T' := fun W e h1 h5 hl hu ht => by
  refine ⟨hl, hu, ht, fun p2 e2 => ?_, fun _ => hpn', hplace, fun p2 _ e2 => ?_, hback W⟩
  ·rw [hp'] at e2
   obtain rfl := Option.some.inj e2
   rw [mOf_succ W r0 hy, e]
   exact vm_step M hr ho hst h1 h5
  ·rw [hp'] at e2
   obtain rfl := Option.some.inj e2
   exact ⟨y0, p.2, tr, by rw [Nat.add_sub_cancel]; exact hy, ho, by rw [Nat.add_sub_cancel]; exact hst⟩
 have hsetu : ∀ (v : Int) (k : Nat), U64 v → ∀ u ∈ V.set k v, U64 u := fun v k hv u hu => (List.mem_or_eq_of_mem_set hu).elim (hs.u64 u) (fun e => e ▸ hv)
 have hset11 : ∀ (v : Int) (k : Nat), (V.set (38 + 3 * k) v).take 11 = r0 := fun v k => by
  rw [List.take_set_of_le (by omega)]
  exact hs.t11
 have hget : ∀ v : Int, (V.set (38 + 3 * (mOf V r0 ins j).n) v).getD (38 + 3 * (mOf V r0 ins j).n) 0 = v := fun v => by
  rw [getD_set V _ _ v (by have := hs.len; omega), if_pos rfl]
 have hru : ∀ k, U64 (regV p'.2 k) := fun k => reg_u64 ho' k
 refine ⟨p, p', tr, T', hp, hp', rfl, hpl, ho, hr, hst, ho', fun hk => ?_, fun hk => ?_, fun hk => ?_⟩
 ·exact key V rfl (fun e => absurd (.inl e) hk) (fun e => absurd (.inr e) hk) hs.len hs.u64 hs.t11
 ·refine key _ (mOf_set V r0 ins j (Nat.le_refl _) _) (fun _ => ?_) (fun e => by omega) (by rw [List.length_set]; exact hs.len) (hsetu _ _ (hru _)) (hset11 _ _)
  unfold bringV
  rw [hget]
  rcases hst with ⟨k, _⟩ | ⟨k, _, ⟨v, hv, hc, e⟩, _⟩ | ⟨k, _⟩ | ⟨k, _⟩ | ⟨k, _⟩ | ⟨k, _⟩
  ·omega
  ·rw [e, reg_set ho.1 M.dst]; exact hc
  ·omega
  ·omega
  ·omega
  ·omega
 ·refine key _ (mOf_set V r0 ins j (Nat.le_refl _) _) (fun e => by omega) (fun _ => ?_) (by rw [List.length_set]; exact hs.len) (hsetu _ _ (hru _)) (hset11 _ _)
  unfold bringV
  rw [hget]
  exact cut64 _
theorem Sg.last (h : SgH l ins b f i x q) (hs : Sg l ins f r0 q j V Tj) (hj : j + 1 = ins.length) (hq : q.length ≤ j + 1) : x.kind = 6 ∧ q.length = ins.length ∧ Sg l ins f r0 q (j + 1) V Tj := by
 have hlong := h.long
 have hk : x.kind = 6 := h.fin.elim (fun z => by omega) id
 have hy : ins[j]? = some x := by
  have := h.last
  rwa [← hj, Nat.add_sub_cancel] at this
 refine ⟨hk, by omega, hs.len, hs.u64, hs.t11, fun p e => ?_, fun e => by omega, fun p e => ?_, fun p _ e => ?_, fun x2 p _ e1 e2 e3 => ?_⟩
 ·have := (List.getElem?_eq_some_iff.1 e).1; omega
 ·have := (List.getElem?_eq_some_iff.1 e).1; omega
 ·have := (List.getElem?_eq_some_iff.1 e).1; omega
 ·rw [Nat.add_sub_cancel] at e1 e3
  have : (mOf V r0 ins (j + 1)).regs = (mOf V r0 ins j).regs := by
   rw [mOf_succ V r0 hy]
   unfold stepV
   rw [if_neg (by omega), if_neg (by omega), if_neg (by omega), if_neg (by omega)]
  rw [this]
  exact hs.regs p e3
theorem Sg.ev {r : RunD} {ex : ExD} (R : RunVal V r (goVV V ⟨r0, [], 0⟩ ins) ex) {y : ID} (hy : ins[j]? = some y) (he : evB y = true) : ∃ e, r.evs[(mOf V r0 ins j).evs.length]? = some e ∧ EvR V r.p e (evV V (mOf V r0 ins j) y) := by
 have h := ev_at V ⟨r0, [], 0⟩ hy he
 have hl := R.evs.len
 have hlt := (List.getElem?_eq_some_iff.1 h).1
 obtain ⟨e, h2⟩ : ∃ e, r.evs[(mOf V r0 ins j).evs.length]? = some e := ⟨r.evs[(mOf V r0 ins j).evs.length]'(by unfold mOf; omega), List.getElem?_eq_getElem _⟩
 exact ⟨e, h2, R.evs.ev _ e _ h2 h⟩
theorem Sg.evs_next (W : List Int) {y : ID} (hy : ins[j]? = some y) (e : mOf W r0 ins j = mOf V r0 ins j) : (mOf W r0 ins (j + 1)).evs.length = (mOf V r0 ins j).evs.length + (if evB y = true then 1 else 0) ∧ (mOf W r0 ins (j + 1)).n = (mOf V r0 ins j).n + (if y.kind = 1 ∨ y.kind = 5 then 1 else 0) := by
 rw [mOf_succ W r0 hy, e, stepV_evs, stepV_more]
 constructor
 ·split
  ·simp
  ·simp
 ·split <;> rfl
theorem xOf_eq (h : SgH l ins b f i x q) : xOf V r0 l (b : Int) = endsV (mOf V r0 ins ins.length) x (nextOf (begB l) b i x) := by
 unfold xOf qOf
 rw [h.blk, mOf_all, h.insE, h.blk]
 dsimp only
 rw [show ((i : Int) + 1 - 1).toNat = i by omega, List.getD_eq_getElem?_getD, h.bk.ins]
 rfl
theorem qOf_eq (h : SgH l ins b f i x q) : qOf V r0 l (b : Int) = goVV V ⟨r0, [], 0⟩ ins := by
 unfold qOf
 rw [h.insE]
theorem Sg.run {c : Int} (h : SgH l ins b f i x q) (hc : (chkP c l).2 = 0) (hV : V.length = 260) (hu : ∀ v ∈ V, U64 v) (ht : V.take 11 = r0) : RunVal V (runV P0 c l (b : Int) R0) (goVV V ⟨r0, [], 0⟩ ins) (endsV (mOf V r0 ins ins.length) x (nextOf (begB l) b i x)) := by
 obtain ⟨h1, h2⟩ := rv_start (vs := V) (by omega)
 rw [ht] at h2
 have hb : b < (blkL l).length := (List.getElem?_eq_some_iff.1 h.bk.at_).1
 have ha : askB P0 l (b : Int) R0 = true := by
  unfold askB
  simp only [Bool.and_eq_true, decide_eq_true_eq]
  exact ⟨by omega, by omega, by decide⟩
 have R := run_val (c := c) hu (by omega) (k := 1950) P0_mi hc ha h1 h2
 rwa [qOf_eq h, xOf_eq h] at R
theorem Sg.exit (h : SgH l ins b f i x q) (hs : Sg l ins f r0 q ins.length V Tj) {p' : Int × List Int} (hq : q[ins.length]? = some p') :
  (endsV (mOf V r0 ins ins.length) x (nextOf (begB l) b i x)).kind ≠ 0 ∧ ∃ k : Nat, (if (endsV (mOf V r0 ins ins.length) x (nextOf (begB l) b i x)).kind = 2 ∧ (endsV (mOf V r0 ins ins.length) x (nextOf (begB l) b i x)).v = 0 then (endsV (mOf V r0 ins ins.length) x (nextOf (begB l) b i x)).els else (endsV (mOf V r0 ins ins.length) x (nextOf (begB l) b i x)).tgt) = (k : Int) ∧ ∃ p, (blkL l)[k]? = some p ∧ p.frm = p'.1 := by
 obtain ⟨y, r, tr, hy, ho, hst⟩ := hs.prev p' h.pos hq
 have hyx : y = x := by
  have := h.last
  rw [hy] at this
  exact Option.some.inj this
 subst hyx
 have hl := h.len
 have hle := h.bk.le
 have hp := h.pos
 rw [show f + (ins.length - 1) = i by omega] at hst
 by_cases hk : y.kind = 3
 ·have hr : (mOf V r0 ins ins.length).regs = r := by
   rw [hs.regs p' hq]
   rcases hst with ⟨k, _⟩ | ⟨k, _⟩ | ⟨k, _⟩ | ⟨k, _, e, _⟩ | ⟨k, _⟩ | ⟨k, _⟩
   ·omega
   ·omega
   ·omega
   ·exact e
   ·omega
   ·omega
  exact exit_to h.pr h.bk hr ho hst
 ·have h6 : y.kind ≠ 6 := by rcases hst with ⟨k, _⟩ | ⟨k, _⟩ | ⟨k, _⟩ | ⟨k, _⟩ | ⟨k, _⟩ | ⟨k, _⟩ <;> omega
  have e : endsV (mOf V r0 ins ins.length) y (nextOf (begB l) b i y) = endsV ⟨r, [], 0⟩ y (nextOf (begB l) b i y) := by
   unfold endsV
   rw [if_neg h6, if_neg (fun z => hk z.1), if_neg h6, if_neg (fun z => hk z.1)]
  rw [e]
  exact exit_to h.pr h.bk (q := ⟨r, [], 0⟩) rfl ho hst
end
end Go.Proofs.YtepagfkkjlbipaaGreat
