/-
  Parts of the proof of SymbcSound. Conditions: those written in each statement.
-/
import Derived.Test.YtepagfkkjlbipaaGreatKaf
set_option linter.unusedVariables false
set_option linter.unusedSimpArgs false
set_option maxHeartbeats 64000000
set_option maxRecDepth 100000
namespace Go.Proofs.YtepagfkkjlbipaaGreat
open Tryz
section
open Go.RowKit
theorem inB_iff {n a b : Int} : inB n a b = true ↔ a ≤ n ∧ n ≤ b := by unfold inB; simp
theorem inB_no {n a b : Int} : inB n a b = false ↔ ¬ (a ≤ n ∧ n ≤ b) := by rw [← inB_iff]; simp
def okAt (n : Nat) (i : Nat) (x : ID) : Bool := mayB x && !(tgtB i x && !inB (tgtN i x) 0 ((n : Int) - 1))
def badAt (n : Nat) : List ID → Nat → Option (Int × Int)
 | [], _ => none
 | x :: r, i => if mayB x = false then some ((i : Int), 31) else if (tgtB i x && !inB (tgtN i x) 0 ((n : Int) - 1)) = true then some ((i : Int), 32) else badAt n r (i + 1)
def lastK (l : List ID) : Int := ((l[l.length - 1]?).map ID.kind).getD 0
def chkP (c : Int) (l : List ID) : Int × Int :=
 if inB c 0 256 = false then (0, 2)
 else if inB ((l.length : Int) - 1) 0 63 = false then (0, 3)
 else match badAt l.length l 0 with
  | some r => r
  | none => if lastK l ≠ 4 ∧ lastK l ≠ 6 then ((l.length : Int) - 1, 33) else (0, 0)
theorem bad_none {n : Nat} : ∀ (l : List ID) (k : Nat), (∀ j x, l[j]? = some x → okAt n (k + j) x = true) → badAt n l k = none
 | [], _, _ => rfl
 | x :: r, k, h => by
  have h0 := h 0 x rfl
  unfold okAt at h0
  simp only [Nat.add_zero, Bool.and_eq_true, Bool.not_eq_true'] at h0
  rw [badAt, if_neg (by rw [h0.1]; simp), if_neg (by rw [h0.2]; simp)]
  exact bad_none r (k + 1) fun j y hy => by
   have := h (j + 1) y (by simpa using hy)
   rwa [show k + (j + 1) = k + 1 + j by omega] at this
theorem bad_some {n : Nat} : ∀ (l : List ID) (k j : Nat) (x : ID), l[j]? = some x → (∀ i y, i < j → l[i]? = some y → okAt n (k + i) y = true) → okAt n (k + j) x = false →
  badAt n l k = some (((k + j : Nat) : Int), if mayB x then 32 else 31)
 | [], _, j, x, h, _, _ => by simp at h
 | y :: r, k, 0, x, h, _, h0 => by
  simp at h
  subst h
  unfold okAt at h0
  rw [badAt]
  cases hm : mayB y
  ·rw [if_pos rfl]; rfl
  ·rw [hm] at h0
   simp only [Bool.true_and, Bool.not_eq_false'] at h0
   rw [if_neg (by simp), if_pos (by simpa using h0)]
   rfl
 | y :: r, k, j + 1, x, h, hb, h0 => by
  have h1 := hb 0 y (by omega) rfl
  unfold okAt at h1
  simp only [Nat.add_zero, Bool.and_eq_true, Bool.not_eq_true'] at h1
  rw [badAt, if_neg (by rw [h1.1]; simp), if_neg (by rw [h1.2]; simp)]
  have := bad_some r (k + 1) j x (by simpa using h) (fun i z hi hz => by
   have := hb (i + 1) z (by omega) (by simpa using hz)
   rwa [show k + (i + 1) = k + 1 + i by omega] at this) (by rwa [show k + 1 + j = k + (j + 1) by omega])
  rw [this, show k + 1 + j = k + (j + 1) by omega]
theorem bad_none_inv {n : Nat} : ∀ (l : List ID) (k : Nat), badAt n l k = none → ∀ j x, l[j]? = some x → okAt n (k + j) x = true
 | [], _, _, j, x, hx => by simp at hx
 | y :: r, k, h, j, x, hx => by
  rw [badAt] at h
  split at h
  ·cases h
  ·rename_i h1
   split at h
   ·cases h
   ·rename_i h2
    cases j with
    | zero =>
     simp at hx
     subst hx
     unfold okAt
     simp only [Bool.not_eq_false, Bool.not_eq_true] at h1 h2
     rw [Nat.add_zero, h1, h2]
     rfl
    | succ j =>
     have := bad_none_inv r (k + 1) h j x (by simpa using hx)
     rwa [show k + 1 + j = k + (j + 1) by omega] at this
theorem bad_pos {n : Nat} : ∀ (l : List ID) (k : Nat) (r : Int × Int), badAt n l k = some r → r.2 = 31 ∨ r.2 = 32
 | [], _, r, h => by simp [badAt] at h
 | y :: t, k, r, h => by
  rw [badAt] at h
  split at h
  ·injection h with h; subst h; exact .inl rfl
  ·split at h
   ·injection h with h; subst h; exact .inr rfl
   ·exact bad_pos t (k + 1) r h
theorem chk_ok {c : Int} {l : List ID} (h : (chkP c l).2 = 0) : 0 ≤ c ∧ c ≤ 256 ∧ 1 ≤ l.length ∧ l.length ≤ 64 ∧ (∀ (j : Nat) (x : ID), l[j]? = some x → okAt l.length j x = true) ∧ (lastK l = 4 ∨ lastK l = 6) ∧ chkP c l = (0, 0) := by
 have h' := h
 unfold chkP at h
 split at h
 ·cases h
 ·rename_i h1
  split at h
  ·cases h
  ·rename_i h2
   simp only [Bool.not_eq_false] at h1 h2
   rw [inB_iff] at h1 h2
   cases hb : badAt l.length l 0 with
   | some r =>
    rw [hb] at h
    have := bad_pos l 0 r hb
    dsimp only at h
    omega
   | none =>
    rw [hb] at h
    dsimp only at h
    split at h
    ·cases h
    ·rename_i h3
     refine ⟨by omega, by omega, by omega, by omega, fun j x hx => by simpa using bad_none_inv l 0 hb j x hx, by omega, ?_⟩
     unfold chkP
     rw [if_neg (by rw [inB_no]; omega), if_neg (by rw [inB_no]; omega), hb]
     dsimp only
     rw [if_neg h3]
theorem chk_ctx {c : Int} {l : List ID} (h : inB c 0 256 = false) : chkP c l = (0, 2) := by unfold chkP; rw [if_pos h]
theorem chk_long {c : Int} {l : List ID} (h : inB c 0 256 = true) (h2 : inB ((l.length : Int) - 1) 0 63 = false) : chkP c l = (0, 3) := by unfold chkP; rw [if_neg (by rw [h]; simp), if_pos h2]
theorem chk_bad {c : Int} {l : List ID} {j : Nat} {x : ID} (h : inB c 0 256 = true) (h2 : inB ((l.length : Int) - 1) 0 63 = true) (hx : l[j]? = some x) (hb : ∀ i y, i < j → l[i]? = some y → okAt l.length i y = true) (h0 : okAt l.length j x = false) :
  chkP c l = ((j : Int), if mayB x then 32 else 31) := by
 have := bad_some (n := l.length) l 0 j x hx (fun i y hi hy => by simpa using hb i y hi hy) (by simpa using h0)
 unfold chkP
 rw [if_neg (by rw [h]; simp), if_neg (by rw [h2]; simp), this]
 simp
theorem chk_end {c : Int} {l : List ID} (h : inB c 0 256 = true) (h2 : inB ((l.length : Int) - 1) 0 63 = true) (hb : ∀ i y, l[i]? = some y → okAt l.length i y = true) :
  chkP c l = if lastK l ≠ 4 ∧ lastK l ≠ 6 then ((l.length : Int) - 1, 33) else (0, 0) := by
 have := bad_none (n := l.length) l 0 (fun i y hy => by simpa using hb i y hy)
 unfold chkP
 rw [if_neg (by rw [h]; simp), if_neg (by rw [h2]; simp), this]
theorem bareR_wf {x : ID} (h : x.wf) : (bareR x).wf := by
 have := h
 unfold ID.wf I8 I64 at this ⊢
 unfold bareR immR
 repeat' split
 all_goals (first | omega | (dsimp only; omega))
theorem kz_wf {k : Int} (h : I8 k) : (kz k).wf := by
 unfold kz ID.wf I8 I64
 unfold I8 at h
 dsimp only
 omega
end
section
open Go.RowKit Go.WideShapes Go.ChangeShapes Go.Deep
structure BD where
 frm : Int
 upto : Int
 next : List Int
abbrev iv (x : Int) : Value := .int .i64 x
def NxAt (w : World) (B : Nat) (s : Value) (l : List Int) : Prop := ∃ A c, s = .slice A l.length c ∧ l.length ≤ c ∧ Reads w B 1 A l.length (l.map (Value.int .i64)) ∧ (∀ x ∈ l, I64 x) ∧ l.length < 9223372036854775808
def bkC (p : BD × Value) : List Value := [.int .i64 p.1.frm, .int .i64 p.1.upto, p.2]
def BD.wf (x : BD) : Prop := I64 x.frm ∧ I64 x.upto
def BksAt (w : World) (B : Nat) (A : Option Addr) (n : Nat) (l : List BD) : Prop := ∃ q : List (BD × Value), q.map (·.1) = l ∧ q.length = n ∧ Reads w B 3 A n (q.flatMap bkC) ∧ ∀ p ∈ q, p.1.wf ∧ NxAt w B p.2 p.1.next
theorem bflat_at {α β : Type} (f : α → List β) (m : Nat) : ∀ (l : List α), (∀ x ∈ l, (f x).length = m) → ∀ (k j : Nat) (x : α) (u : β), l[k]? = some x → (f x)[j]? = some u → (l.flatMap f)[k * m + j]? = some u
 | [], _, k, j, x, u, hk, _ => by simp at hk
 | y :: r, hl, k, j, x, u, hk, hu => by
  rw [List.flatMap_cons]
  have hy := hl y (by simp)
  cases k with
  | zero =>
   simp at hk
   subst hk
   have hj : j < (f y).length := (List.getElem?_eq_some_iff.1 hu).1
   rw [Nat.zero_mul, Nat.zero_add, List.getElem?_append_left hj, hu]
  | succ k =>
   have := bflat_at f m r (fun z hz => hl z (by simp [hz])) k j x u (by simpa using hk) hu
   rw [List.getElem?_append_right (by rw [hy, Nat.succ_mul]; omega), hy, show (k + 1) * m + j - m = k * m + j by rw [Nat.succ_mul]; omega]
   exact this
section
variable {w w' : World} {B B' n : Nat} {A : Option Addr} {l : List BD} {s : Value} {ns : List Int}
theorem NxAt.below (h : NxAt w B s ns) (hb : Below B w w') : NxAt w' B s ns := by
 obtain ⟨A, c, h1, h2, h3, h4⟩ := h
 exact ⟨A, c, h1, h2, h3.below hb, h4⟩
theorem NxAt.more (h : NxAt w B s ns) (hB : B ≤ B') : NxAt w B' s ns := by
 obtain ⟨A, c, h1, h2, h3, h4⟩ := h
 exact ⟨A, c, h1, h2, h3.more hB, h4⟩
theorem BksAt.len (h : BksAt w B A n l) : l.length = n := by
 obtain ⟨q, rfl, h2, _⟩ := h
 rw [List.length_map, h2]
theorem BksAt.at_ {k : Nat} (h : BksAt w B A n l) (hk : k < n) : ∃ ad x s, A = some ad ∧ ad.block < B ∧ l[k]? = some x ∧ x.wf ∧ NxAt w B s x.next ∧ ∀ j u, (bkC (x, s))[j]? = some u → w.cell? ((ad.add (k * 3)).add j) = some u := by
 obtain ⟨q, rfl, h2, h3, h4⟩ := h
 obtain ⟨ad, e, hb, hc⟩ := h3.2 (by omega)
 have hkq : k < q.length := by omega
 have hx : q[k]? = some q[k] := List.getElem?_eq_getElem hkq
 obtain ⟨h5, h6⟩ := h4 _ (List.getElem_mem hkq)
 refine ⟨ad, q[k].1, q[k].2, e, hb, by rw [List.getElem?_map, hx]; rfl, h5, h6, fun j u hu => ?_⟩
 rw [add_of_add]
 exact hc _ u (bflat_at bkC 3 q (fun z hz => rfl) k j _ u hx hu)
theorem BksAt.below (h : BksAt w B A n l) (hb : Below B w w') : BksAt w' B A n l := by
 obtain ⟨q, h1, h2, h3, h4⟩ := h
 exact ⟨q, h1, h2, h3.below hb, fun p hp => ⟨(h4 p hp).1, (h4 p hp).2.below hb⟩⟩
theorem BksAt.more (h : BksAt w B A n l) (hB : B ≤ B') : BksAt w B' A n l := by
 obtain ⟨q, h1, h2, h3, h4⟩ := h
 exact ⟨q, h1, h2, h3.more hB, fun p hp => ⟨(h4 p hp).1, (h4 p hp).2.more hB⟩⟩
theorem BksAt.up (h : BksAt w B A n l) (hb : Below B w w') (hz : B ≤ w'.heap.size) : BksAt w' w'.heap.size A n l := (h.below hb).more hz
end
/-! ### blocks that came in -/
section
variable {H : Type} {enc : TypeId × Value → H} {w : World} {base b0 : Nat} {re : Reach} {spare : Nat → Bool} {held : Bool}
end
end
section
open Go.RowKit
def ReadsF (w : World) (F : Nat → Prop) (size : Nat) (A : Option Addr) (n : Nat) (xs : List Value) : Prop :=
 xs.length = n * size ∧ (0 < n → ∃ ad, A = some ad ∧ ad.block < w.heap.size ∧ ¬ F ad.block ∧ ∀ j u, xs[j]? = some u → w.cell? (ad.add j) = some u)
def NumsF (w : World) (F : Nat → Prop) (s : Value) (l : List Int) : Prop := ∃ A c, s = .slice A l.length c ∧ l.length ≤ c ∧ ReadsF w F 1 A l.length (l.map (Value.int .i64)) ∧ (∀ x ∈ l, I64 x) ∧ l.length ≤ 5
section
variable {w w' : World} {F G H : Nat → Prop} {size n : Nat} {A : Option Addr} {xs : List Value} {s : Value} {l : List Int}
theorem ReadsF.reads (h : ReadsF w F size A n xs) : Reads w w.heap.size size A n xs := ⟨h.1, fun hn => by
 obtain ⟨ad, e, hb, _, hc⟩ := h.2 hn
 exact ⟨ad, e, hb, hc⟩⟩
theorem ReadsF.chg (h : ReadsF w F size A n xs) (hc : Chg H w w') (hH : ∀ b, H b → F b ∨ w.heap.size ≤ b) (hG : ∀ b, G b → F b ∨ w.heap.size ≤ b) : ReadsF w' G size A n xs := ⟨h.1, fun hn => by
 obtain ⟨ad, e, hb, hf, hcell⟩ := h.2 hn
 exact ⟨ad, e, Nat.lt_of_lt_of_le hb hc.size, fun q => (hG _ q).elim hf (fun k => by omega), fun j u hu => (World.cell?_of_block (by rw [block_of_add]; exact hc.block _ hb (fun q => (hH _ q).elim hf (fun k => by omega)))).trans (hcell j u hu)⟩⟩
theorem ReadsF.none_ : ReadsF w F size A 0 [] := ⟨by simp, fun h => absurd h (by omega)⟩
theorem ReadsF.of_own {base : Nat} {e : TypeId} (h : w.ownsRow base e size s n xs) (hf : ∀ b, s.ownBlock = some b → ¬ F b) : ∃ A c, s = .slice A n c ∧ n ≤ c ∧ ReadsF w F size A n xs := by
 obtain ⟨A, c, rfl, h4, h5⟩ := (RowL.of_own h).slice
 refine ⟨A, c, rfl, h4, h5.1, fun hn => ?_⟩
 obtain ⟨ad, e, hb, hc⟩ := h5.2 hn
 subst e
 exact ⟨ad, rfl, hb, hf _ rfl, hc⟩
theorem NumsF.chg (h : NumsF w F s l) (hc : Chg H w w') (hH : ∀ b, H b → F b ∨ w.heap.size ≤ b) (hG : ∀ b, G b → F b ∨ w.heap.size ≤ b) : NumsF w' G s l := by
 obtain ⟨A, c, h1, h2, h3, h4⟩ := h
 exact ⟨A, c, h1, h2, h3.chg hc hH hG, h4⟩
theorem NumsF.at_ {m c k : Nat} (h : NumsF w F (.slice A m c) l) (hk : k < m) : ∃ ad x, A = some ad ∧ ad.block < w.heap.size ∧ l[k]? = some x ∧ I64 x ∧ w.cell? (ad.add k) = some (.int .i64 x) := by
 obtain ⟨A', c', h1, h2, h3, h4, h5⟩ := h
 injection h1 with h0 h1 hc
 subst h0 h1 hc
 obtain ⟨ad, u, e, hb, hx, hc⟩ := h3.reads.at_ hk
 have hx' : l[k]? = some l[k] := List.getElem?_eq_getElem hk
 rw [List.getElem?_map, hx'] at hx
 injection hx with hx
 subst hx
 exact ⟨ad, _, e, hb, hx', h4 _ (List.getElem_mem _), hc⟩
theorem NumsF.len {m c : Nat} (h : NumsF w F (.slice A m c) l) : l.length = m ∧ m ≤ c ∧ m ≤ 5 := by
 obtain ⟨A', c', h1, h2, h3, h4, h5⟩ := h
 injection h1 with h0 h1 hc
 subst h0 h1 hc
 exact ⟨rfl, h2, h5⟩
theorem NumsF.form (h : NumsF w F s l) : ∃ A c, s = .slice A l.length c := by
 obtain ⟨A, c, h1, _⟩ := h
 exact ⟨A, c, h1⟩
theorem NumsF.nil : NumsF w F (.slice none 0 0) [] := ⟨none, 0, rfl, Nat.le_refl _, ReadsF.none_, by simp, by simp⟩
end
def BksN (w : World) (F : Nat → Prop) (A : Option Addr) (n : Nat) (l : List BD) : Prop := ∃ q : List (BD × Value), q.map (·.1) = l ∧ q.length = n ∧ ReadsF w F 3 A n (q.flatMap bkC) ∧ ∀ p ∈ q, p.1.wf ∧ NumsF w F p.2 p.1.next
section
variable {w w' : World} {F G H : Nat → Prop} {n : Nat} {A : Option Addr} {l : List BD}
theorem BksN.nil : BksN w F none 0 [] := ⟨[], rfl, rfl, ReadsF.none_, by simp⟩
theorem BksN.chg (h : BksN w F A n l) (hc : Chg H w w') (hH : ∀ b, H b → F b ∨ w.heap.size ≤ b) (hG : ∀ b, G b → F b ∨ w.heap.size ≤ b) : BksN w' G A n l := by
 obtain ⟨q, h1, h2, h3, h4⟩ := h
 exact ⟨q, h1, h2, h3.chg hc hH hG, fun p hp => ⟨(h4 p hp).1, (h4 p hp).2.chg hc hH hG⟩⟩
theorem BksN.at_ {k : Nat} (h : BksN w F A n l) (hk : k < n) : ∃ ad x s, A = some ad ∧ ad.block < w.heap.size ∧ ¬ F ad.block ∧ l[k]? = some x ∧ x.wf ∧ NumsF w F s x.next ∧ ∀ j u, (bkC (x, s))[j]? = some u → w.cell? ((ad.add (k * 3)).add j) = some u := by
 obtain ⟨q, rfl, h2, h3, h4⟩ := h
 obtain ⟨ad, e, hb, hf, hc⟩ := h3.2 (by omega)
 have hkq : k < q.length := by omega
 have hx : q[k]? = some q[k] := List.getElem?_eq_getElem hkq
 obtain ⟨h5, h6⟩ := h4 _ (List.getElem_mem hkq)
 refine ⟨ad, q[k].1, q[k].2, e, hb, hf, by rw [List.getElem?_map, hx]; rfl, h5, h6, fun j u hu => ?_⟩
 rw [add_of_add]
 exact hc _ u (bflat_at bkC 3 q (fun z hz => rfl) k j _ u hx hu)
end
end
section
open Go.RowKit
section
variable {P : Program} {ops : Array Oper} {Q : Exit → Act → World → Prop} {md : Region.Mode} {T S : World → Prop} {late : List Nat} {fuel : Nat} {listed : Array Bool} {ts ts' : List Value} {ds : List Deferred} {w : World} {t : Nat}
theorem eb (i : Nat) (v : Value) {op : Op} (ho : opAt ops i = some (some t, op)) (hy : ∀ o : Oper, o.op = op → ∀ w, SS T S false w → (execOp (Act.eval ⟨ts.toArray, ds⟩) o).run P w = .ok (.value v) w) (hS : St T S late listed w) (h : wpAnyE P md ops Q T S late fuel (listed.setIfInBounds i true) ⟨ts'.toArray, ds⟩ w) (hc : checkE md ops late listed i false = true := by kernel_rfl) (hw : wantAt ops i ⟨ts.toArray, ds⟩ = some true := by rfl) (hQ : ∀ c (a : Act) w, Q (.panic c) (a.put (some t) v) w → Q (.panic c) a w := by exact fun _ _ _ h => h) (hs : sL ts t v = ts' := by (simp only [sL]; rfl)) :
  wpAnyE P md ops Q T S late (fuel + 1) listed ⟨ts.toArray, ds⟩ w := E_any false i _ op v ho hc hw hQ hy hS (by rw [pt, hs]; exact h)
theorem ej (i : Nat) (vx vy v : Value) {ty : TypeId} {x y : Operand} (hr : ∀ w, (Instr.indexAt ty vx vy).run P w = .ok v w) (hS : St T S late listed w) (h : wpAnyE P md ops Q T S late fuel (listed.setIfInBounds i true) ⟨ts'.toArray, ds⟩ w) (ho : opAt ops i = some (some t, .indexAddr ty x y) := by rfl) (hc : checkE md ops late listed i false = true := by kernel_rfl) (hw : wantAt ops i ⟨ts.toArray, ds⟩ = some true := by rfl) (hQ : ∀ c (a : Act) w, Q (.panic c) (a.put (some t) v) w → Q (.panic c) a w := by exact fun _ _ _ h => h)
  (hx : Act.eval ⟨ts.toArray, ds⟩ x = vx := by rfl) (hy : Act.eval ⟨ts.toArray, ds⟩ y = vy := by rfl) (hs : sL ts t v = ts' := by (simp only [sL]; rfl)) : wpAnyE P md ops Q T S late (fuel + 1) listed ⟨ts.toArray, ds⟩ w := E_any false i _ _ v ho hc hw hQ (fun o e w _ => by
  unfold execOp
  simp only [e, hx, hy, Sem.run_bind, hr, Result.andThen_ok, Sem.run_pure]) hS (by rw [pt, hs]; exact h)
end
end
section
open Go.RowKit
def U8 (x : Int) : Prop := 0 ≤ x ∧ x < 256
def u8C (l : List Int) : List Value := l.map (Value.int .u8)
theorem u8_one (l : List Int) : ∀ u ∈ u8C l, u.oneCell' = true := by
 intro u hu
 unfold u8C at hu
 obtain ⟨x, _, rfl⟩ := List.mem_map.1 hu
 rfl
theorem infB : (prog.info? 5).map (fun i => (i.zero, i.size, i.bytes)) = some (some (.int .u8 0), 1, 1) := by kernel_rfl
def SameP (base : Nat) (w : World) (l : List Int) (e : Ending) (w' : World) : Prop := ∃ v, e = .returned v ∧ w'.ownsRow base 5 1 v l.length (u8C l) ∧ Below w.heap.size w w'
theorem same_bytes (A : Option Addr) (n c B : Nat) (l : List Int) (w : World) (hr : Reads w B 1 A n (u8C l)) (hl : l.length = n) (hn : n < 1099511627776) : Calls prog 67 #[.slice A n c] w (SameP w.heap.size w l) := by
 have HR := Hd hr
 have HL := Hd hl
 obtain ⟨iB, hiB, hzB, hsB, hbB⟩ := info_parts infB
 have IB := Hd (And.intro hiB (And.intro hzB (And.intro hsB hbB)))
 clear hr hl hiB hzB hsB hbB
 go_enter func67, ntmps67
 go_wp2_with (first
  | (refine wpList_append_any _ rfl (.tmp 4) (.tmp 5) 25 rfl w.heap.size 5 iB _ 1 1 underlying25 IB.out.1 IB.out.2.1 IB.out.2.2.1 IB.out.2.2.2 rfl (by omega) (.slice none 0 0) 0 [] (by rfl) ⟨rfl, .inl ⟨rfl, rfl⟩⟩ B A n c _ (by rfl) HR.out (u8_one l) (by unfold maxLen; omega) (by omega) (Nat.le_refl _) ?_
     intro v4 w4 R4 G4 _
     have HR4 := Hd R4
     have HG4 := Hd G4
     clear R4 G4)
  | fail)
 go_ret
 refine ⟨v4, rfl, ?_, (Below.refl _ _).grown HG4.out (Nat.le_refl _) (fun g e => by simp [Value.ownBlock] at e)⟩
 have := HR4.out
 rw [Nat.zero_add, List.nil_append] at this
 rw [HL.out]
 exact this
def RowB (w : World) (base : Nat) (v : Value) (n : Nat) : Prop := ∃ l : List Int, l.length = n ∧ (∀ x ∈ l, U8 x) ∧ RowL w base 5 1 v n (u8C l)
theorem RowB.block_ {w w' : World} {base n : Nat} {v : Value} (h : RowB w base v n) (hb : ∀ g, v.ownBlock = some g → w'.heap[g]? = w.heap[g]?) : RowB w' base v n := by
 obtain ⟨l, h1, h2, h3⟩ := h
 exact ⟨l, h1, h2, h3.block_ hb⟩
theorem RowB.store {w : World} {base n : Nat} {v : Value} (h : RowB w base v n) (g j : Nat) {u : Int} (hu : U8 u) : RowB (w.setCell ⟨g, j, none⟩ (.int .u8 u)) base v n := by
 by_cases hg : v.ownBlock = some g
 ·obtain ⟨l, h1, h2, h3⟩ := h
  rcases h3.2 with ⟨e, _⟩ | ⟨g', cap, cur, e, _⟩
  ·rw [e] at hg; simp [Value.ownBlock] at hg
  ·subst e
   have : g' = g := by simpa [Value.ownBlock] using hg
   subst this
   refine ⟨l.set j u, by rw [List.length_set]; exact h1, fun x hx => (List.mem_or_eq_of_mem_set hx).elim (h2 x) (fun e => e ▸ hu), ?_⟩
   have := (h3.stored j (.int .u8 u)).1
   rwa [show (u8C l).set j (.int .u8 u) = u8C (l.set j u) by unfold u8C; rw [List.map_set]] at this
 ·refine h.block_ fun k hk => ?_
  exact heap_setCell_other w ⟨g, j, none⟩ k _ (fun e => hg (by rw [hk]; simpa using e))
theorem RowB.ge {w : World} {base n : Nat} {v : Value} (h : RowB w base v n) : ∀ g, v.ownBlock = some g → base ≤ g ∧ g < w.heap.size := by
 obtain ⟨l, _, _, h3⟩ := h
 exact h3.ge
theorem RowB.below {w w' : World} {base n : Nat} {v : Value} (h : RowB w base v n) (hb : Below w.heap.size w w') : RowB w' base v n := h.block_ fun g q => hb.block g (h.ge g q).2
structure MemRows (w : World) (base : Nat) (F : Nat → Prop) (bm : Nat) (vc vx vf : Value) (nx : Nat) : Prop where
 blk : Blk w bm 142 #[vc, vx, vf, .slice none 0 0]
 code : RowB w base vc 0
 ctx : RowB w base vx nx
 frm : RowB w base vf 64
 cb : ∀ b, vc.ownBlock = some b → F b ∧ b ≠ bm
 xb : ∀ b, vx.ownBlock = some b → F b ∧ b ≠ bm
 fb : ∀ b, vf.ownBlock = some b → F b ∧ b ≠ bm
 le : nx ≤ 256
 own : F bm
structure MemAt (w : World) (base : Nat) (F : Nat → Prop) (bm : Nat) : Prop where
 ex : ∃ vc vx vf nx, MemRows w base F bm vc vx vf nx
 fb : ∀ b, F b → base ≤ b ∧ b < w.heap.size
section
variable {w w' : World} {base bm : Nat} {F G : Nat → Prop}
theorem MemRows.chg {vc vx vf : Value} {nx : Nat} (h : MemRows w base F bm vc vx vf nx) (hc : Chg G w w') (hd : ∀ b, F b → ¬ G b) : MemRows w' base F bm vc vx vf nx :=
 { h with blk := hc.blk h.blk (hd _ h.own), code := h.code.block_ fun g q => hc.block g (h.code.ge g q).2 (hd _ (h.cb g q).1), ctx := h.ctx.block_ fun g q => hc.block g (h.ctx.ge g q).2 (hd _ (h.xb g q).1), frm := h.frm.block_ fun g q => hc.block g (h.frm.ge g q).2 (hd _ (h.fb g q).1) }
theorem MemAt.chg (h : MemAt w base F bm) (hc : Chg G w w') (hd : ∀ b, F b → ¬ G b) : MemAt w' base F bm := by
 obtain ⟨vc, vx, vf, nx, h1⟩ := h.ex
 exact ⟨⟨vc, vx, vf, nx, h1.chg hc hd⟩, fun b q => ⟨(h.fb b q).1, Nat.lt_of_lt_of_le (h.fb b q).2 hc.size⟩⟩
theorem MemAt.below (h : MemAt w base F bm) (hb : Below w.heap.size w w') : MemAt w' base F bm := h.chg (G := fun _ => False) (.of_below hb) (fun _ _ q => q)
def MemRow (w : World) (base : Nat) (F : Nat → Prop) (bm : Nat) (row : Value) (m : Nat) : Prop := ∃ vc vx vf nx, MemRows w base F bm vc vx vf nx ∧ ((row = vx ∧ m = nx) ∨ (row = vf ∧ m = 64))
theorem MemRow.form {row : Value} {m : Nat} (h : MemRow w base F bm row m) (hm : 0 < m) : ∃ g cap, row = .slice (some ⟨g, 0, none⟩) m cap ∧ F g ∧ g < w.heap.size ∧ m ≤ 256 ∧ m ≤ cap ∧ (∀ j, j < m → ∃ x, w.cell? ⟨g, j, none⟩ = some (.int .u8 x) ∧ U8 x ∧ w.frozen? ⟨g, j, none⟩ = false) ∧
  ∀ j u, U8 u → MemRow (w.setCell ⟨g, j, none⟩ (.int .u8 u)) base F bm row m ∧ w.grownBy (w.setCell ⟨g, j, none⟩ (.int .u8 u)) (some g) := by
 obtain ⟨vc, vx, vf, nx, R, hrow⟩ := h
 have hr : RowB w base row m ∧ (∀ b, row.ownBlock = some b → F b ∧ b ≠ bm) ∧ m ≤ 256 := by
  rcases hrow with ⟨rfl, rfl⟩ | ⟨rfl, rfl⟩
  ·exact ⟨R.ctx, R.xb, R.le⟩
  ·exact ⟨R.frm, R.fb, by omega⟩
 obtain ⟨⟨l, h1, h2, h3⟩, hb, h256⟩ := hr
 obtain ⟨g, cap, rfl, hc, _, hlt⟩ := h3.form hm
 have hg := hb g rfl
 refine ⟨g, cap, rfl, hg.1, hlt, h256, hc, fun j hj => ?_, fun j u hu => ?_⟩
 ·have hj' : j < l.length := by omega
  exact ⟨l[j], (h3.cell j (by omega)).trans (by unfold u8C; rw [List.getElem?_map, List.getElem?_eq_getElem hj']; rfl), h2 _ (List.getElem_mem hj'), h3.frozen j⟩
 ·have h4 := (h3.stored j (.int .u8 u)).2
  have hch : Chg (fun k => k = g) w (w.setCell ⟨g, j, none⟩ (.int .u8 u)) := Chg.of_grown h4 (fun k e => by injection e with e; exact .inl e.symm)
  exact ⟨⟨vc, vx, vf, nx, { R with blk := hch.blk R.blk (fun e => hg.2 e.symm), code := R.code.store g j hu, ctx := R.ctx.store g j hu, frm := R.frm.store g j hu }, hrow⟩, h4⟩
theorem MemRow.mem {row : Value} {m : Nat} (h : MemRow w base F bm row m) (hf : ∀ b, F b → base ≤ b ∧ b < w.heap.size) : MemAt w base F bm := by
 obtain ⟨vc, vx, vf, nx, R, _⟩ := h
 exact ⟨⟨vc, vx, vf, nx, R⟩, hf⟩
end
/-! ### an access's place -/
theorem within_any (a n b0 : Int) (A : Option Addr) (m c : Nat) (w : World) (ha : U64 a) (hb : U64 b0) (hm : m < 1099511627776) (hn : 0 ≤ n ∧ n < 1000) :
  Calls prog 153 #[.int .u64 a, .int .i64 n, .int .u64 b0, .slice A m c] w fun e w' => ∃ k ok, e = .returned (.tuple #[.int .i64 k, .bool ok]) ∧ w = w' ∧ I64 k ∧ (ok = true → 0 ≤ k ∧ k + n ≤ m) := by
 unfold U64 at ha hb
 cases h1 : decide (a < b0)
 rotate_left
 ·go_enter func153, ntmps153
  go_wp2
  go_ret2
  exact ⟨0, false, rfl, rfl, by unfold I64; omega, fun h => by cases h⟩
 have h1' : b0 ≤ a := by simpa using h1
 have hw : IntKind.u64.wrap (a - b0) = a - b0 := by rw [IntKind.wrap_u64]; omega
 have hl : IntKind.u64.wrap (m : Int) = (m : Int) := by rw [IntKind.wrap_u64]; omega
 obtain ⟨q, hq⟩ : ∃ q, a - b0 = q := ⟨_, rfl⟩
 rw [hq] at hw
 cases h2 : decide ((m : Int) ≤ q)
 rotate_left
 ·go_enter func153, ntmps153
  go_wp2
  go_ret2
  exact ⟨0, false, rfl, rfl, by unfold I64; omega, fun h => by cases h⟩
 have h2' : q < (m : Int) := by simpa using h2
 have hi : IntKind.i64.wrap q = q := by rw [IntKind.wrap_i64]; omega
 have hs : IntKind.i64.wrap ((m : Int) - q) = (m : Int) - q := by rw [IntKind.wrap_i64]; omega
 go_enter func153, ntmps153
 go_wp2
 go_ret2
 exact ⟨q, _, rfl, rfl, by unfold I64; omega, fun h => ⟨by omega, by simp at h; omega⟩⟩
section
variable {w w' : World} {base bm : Nat} {F G : Nat → Prop}
def FindP (w : World) (base : Nat) (F : Nat → Prop) (bm : Nat) (n : Int) (e : Ending) (w' : World) : Prop := ∃ row k ok, e = .returned (.tuple #[row, .int .i64 k, .bool ok]) ∧ w = w' ∧ I64 k ∧ (ok = true → ∃ m, MemRow w base F bm row m ∧ 0 ≤ k ∧ k + n ≤ m)
theorem find_any (h : MemAt w base F bm) (a n : Int) (wr : Bool) (ha : U64 a) (hn : 1 ≤ n ∧ n ≤ 8) : Calls prog 104 #[.pointer (some ⟨bm, 0, none⟩), .int .u64 a, .int .i64 n, .bool wr] w (FindP w base F bm n) := by
 obtain ⟨vc, vx, vf, nx, R⟩ := h.ex
 obtain ⟨_, _, _, hc3⟩ := R.code
 obtain ⟨_, _, _, hx3⟩ := R.ctx
 obtain ⟨_, _, _, hf3⟩ := R.frm
 obtain ⟨Ac, cc, rfl, _, _⟩ := hc3.slice
 obtain ⟨Ax, cx, rfl, _, _⟩ := hx3.slice
 obtain ⟨Af, cf, rfl, _, _⟩ := hf3.slice
 have c0 : w.cell? ⟨bm, 0, none⟩ = some (.slice Ac 0 cc) := R.blk.cell 0
 have c1 : w.cell? ⟨bm, 1, none⟩ = some (.slice Ax nx cx) := R.blk.cell 1
 have c2 : w.cell? ⟨bm, 2, none⟩ = some (.slice Af 64 cf) := R.blk.cell 2
 have c3 : w.cell? ⟨bm, 3, none⟩ = some (.slice none 0 0) := R.blk.cell 3
 have HR := Hd R
 clear h R hc3 hx3 hf3
 have hle := HR.out.le
 go_enter func104, ntmps104
 go_wp2_with fail
 refine (within_any a n 1048576 Ac 0 cc w ha (by unfold U64; omega) (by omega) (by omega)).mono ?_
 rintro e w1 ⟨k0, ok0, rfl, rfl, hi0, hk0⟩
 have hok0 : ok0 = false := by
  cases ok0
  ·rfl
  ·have := hk0 rfl; omega
 subst hok0
 clear hk0
 go_wp2_with fail
 refine (within_any a n 2097152 Ax nx cx w ha (by unfold U64; omega) (by omega) (by omega)).mono ?_
 rintro e w1 ⟨k1, ok1, rfl, rfl, hi1, hk1⟩
 have HK1 := Hd hk1
 clear hk1
 cases ok1
 rotate_left
 ·go_wp2
  go_ret3
  exact ⟨_, _, _, rfl, rfl, hi1, fun _ => ⟨nx, ⟨_, _, _, nx, HR.out, .inl ⟨rfl, rfl⟩⟩, HK1.out (by first | rfl | trivial)⟩⟩
 clear HK1
 go_wp2_with fail
 refine (within_any a n 3145728 Af 64 cf w ha (by unfold U64; omega) (by omega) (by omega)).mono ?_
 rintro e w1 ⟨k2, ok2, rfl, rfl, hi2, hk2⟩
 have HK2 := Hd hk2
 clear hk2
 cases ok2
 rotate_left
 ·go_wp2
  go_ret3
  exact ⟨_, _, _, rfl, rfl, hi2, fun _ => ⟨64, ⟨_, _, _, nx, HR.out, .inr ⟨rfl, rfl⟩⟩, HK2.out (by first | rfl | trivial)⟩⟩
 clear HK2
 go_wp2_with fail
 refine (within_any a n 4194304 none 0 0 w ha (by unfold U64; omega) (by omega) (by omega)).mono ?_
 rintro e w1 ⟨k3, ok3, rfl, rfl, hi3, hk3⟩
 have hok3 : ok3 = false := by
  cases ok3
  ·rfl
  ·have := hk3 rfl; omega
 subst hok3
 go_wp2
 go_ret3
 exact ⟨_, _, _, rfl, rfl, hi3, fun h => by cases h⟩
def Sz (n : Int) : Prop := n = 1 ∨ n = 2 ∨ n = 4 ∨ n = 8
theorem rsz_any (n : Int) (w : World) (hn : Sz n) : Calls prog 103 #[.int .i64 n] w fun e w' => e = .returned (.bool true) ∧ w = w' := by
 rcases hn with rfl | rfl | rfl | rfl
 all_goals
  go_enter func103, ntmps103
  go_wp2
  go_ret
  exact ⟨rfl, rfl⟩
theorem or_u64 {a b k : Nat} (ha : a < 2 ^ k) (hb : b < 2 ^ k) (hk : k ≤ 64) : ∃ c : Nat, c < 2 ^ k ∧ bits .or .u64 (a : Int) (b : Int) = (c : Int) := by
 have h64 : 2 ^ k ≤ 2 ^ 64 := Nat.pow_le_pow_right (by omega) hk
 have h64v : (2 : Nat) ^ 64 = 18446744073709551616 := by decide
 have hc : a ||| b < 2 ^ k := Nat.or_lt_two_pow ha hb
 refine ⟨a ||| b, hc, ?_⟩
 have e : ∀ x : Nat, x < 18446744073709551616 → (BitVec.ofInt 64 (x : Int)).toNat = x := fun x hx => by
  rw [BitVec.ofInt_natCast, BitVec.toNat_ofNat]
  exact Nat.mod_eq_of_lt (by omega)
 show IntKind.u64.wrap ((BitVec.ofInt 64 (a : Int) ||| BitVec.ofInt 64 (b : Int)).toNat : Int) = _
 rw [BitVec.toNat_or, e a (by omega), e b (by omega), IntKind.wrap_u64]
 omega
def ReadP (n : Int) (w : World) (e : Ending) (w' : World) : Prop := ∃ (v : Nat) (er : Int), e = .returned (.tuple #[.int .u64 (v : Int), .int .i64 er]) ∧ w = w' ∧ I64 er ∧ v < 2 ^ (8 * n.toNat)
theorem read_any (h : MemAt w base F bm) (a n : Int) (ha : U64 a) (hn : Sz n) : Calls prog 62 #[.pointer (some ⟨bm, 0, none⟩), .int .u64 a, .int .i64 n] w (ReadP n w) := by
 have hp0 : (0 : Nat) < 2 ^ (8 * n.toNat) := Nat.two_pow_pos _
 have HP := Hd hp0
 have H := Hd h
 have HN := Hd hn
 have hn8 : 1 ≤ n ∧ n ≤ 8 := by unfold Sz at hn; omega
 clear h hn hp0
 go_enter func62, ntmps62
 go_wp2_with fail
 refine (rsz_any n w HN.out).mono ?_
 rintro e w1 ⟨rfl, rfl⟩
 go_wp2_with fail
 refine (find_any H.out a n false ha hn8).mono ?_
 rintro e w1 ⟨row, k, ok, rfl, rfl, hki, hrow⟩
 have HRW := Hd hrow
 clear hrow
 cases ok
 ·go_wp2
  go_ret2
  exact ⟨0, 20, rfl, rfl, by unfold I64; omega, HP.out⟩
 obtain ⟨m, hm, hk0, hkm⟩ := HRW.out rfl
 obtain ⟨g, cap, rfl, _, _, hm256, _, hbyte, _⟩ := hm.form (by omega)
 have HBY := Hd hbyte
 obtain ⟨kk, rfl⟩ : ∃ q : Nat, k = (q : Int) := ⟨k.toNat, by omega⟩
 clear hm hbyte HRW
 go_wp2_with fail
 go_loopw [11, 12] (fun v i wr => ∃ (j : Nat) (x : Nat), (j : Int) ≤ n ∧ i = .int .i64 (n - 1 - j) ∧ v = .int .u64 (x : Int) ∧ Hid (x < 2 ^ (8 * j)) ∧ wr = w) (fun _ i _ => (intOf i + 1).toNat)
 case atStart => exact ⟨0, 0, by omega, by go_num, rfl, Hd (by simp), rfl⟩
 case round =>
  obtain ⟨j, x, hj, rfl, rfl, HX, rfl⟩ := hrel
  by_cases hlt : (j : Int) < n
  ·obtain ⟨jj, hjj⟩ : ∃ q : Nat, n - 1 - j = (q : Int) := ⟨(n - 1 - j).toNat, by omega⟩
   rw [hjj]
   obtain ⟨y, hy, hyu, _⟩ := HBY.out (kk + jj) (by omega)
   obtain ⟨yn, rfl⟩ : ∃ q : Nat, y = (q : Int) := ⟨y.toNat, by have := hyu.1; omega⟩
   have hs1 : IntKind.i64.wrap ((kk : Int) + (jj : Int)) = ((kk + jj : Nat) : Int) := by rw [IntKind.wrap_i64]; omega
   have hpw : 2 ^ (8 * j) * 256 = 2 ^ (8 * (j + 1)) := by rw [Nat.mul_add, Nat.pow_add]
   have h64 : 2 ^ (8 * (j + 1)) ≤ 2 ^ 64 := Nat.pow_le_pow_right (by omega) (by omega)
   have h64v : (2 : Nat) ^ 64 = 18446744073709551616 := by decide
   have hx0 := HX.out
   have h256 : 256 ≤ 2 ^ (8 * (j + 1)) := by
    rw [← hpw]
    have := Nat.two_pow_pos (8 * j)
    omega
   obtain ⟨z, hz, hor⟩ := or_u64 (a := x * 256) (b := yn) (k := 8 * (j + 1)) (by rw [← hpw]; omega) (by have := hyu.2; omega) (by omega)
   have HZ := Hd hz
   have hsh : IntKind.u64.wrap ((x : Int) * 256) = ((x * 256 : Nat) : Int) := by
    have : x * 256 < 18446744073709551616 := by rw [← h64v]; exact Nat.lt_of_lt_of_le (by rw [← hpw]; omega) h64
    rw [IntKind.wrap_u64]
    omega
   have hor2 : bits .or .u64 ((x : Int) * 256) (yn : Int) = (z : Int) := by
    rw [← hor]
    congr 1
   have hwy : IntKind.u64.wrap (yn : Int) = (yn : Int) := by have := hyu.2; rw [IntKind.wrap_u64]; omega
   clear hpw h64 h64v hx0 hz HX h256 hor
   go_wp2
   go_roundw
   case measure => first | (simp [intOf]; done) | (simp [intOf]; omega)
   case rel => exact ⟨j + 1, z, by omega, by congr 1 <;> omega, rfl, HZ.out, by first | rfl | trivial⟩
  ·have hjn : (j : Int) = n := by omega
   have hc : decide ((0 : Int) ≤ n - 1 - j) = false := by simp; omega
   have HJ := Hd (show j = n.toNat by omega)
   go_wp2
   go_ret2
   exact ⟨x, 0, rfl, rfl, by unfold I64; omega, by rw [← HJ.out]; exact HX.out⟩
def WriteP (w : World) (base : Nat) (F : Nat → Prop) (bm : Nat) (e : Ending) (w' : World) : Prop := ∃ er, e = .returned (.int .i64 er) ∧ I64 er ∧ MemAt w' base F bm ∧ Chg F w w'
theorem write_any (h : MemAt w base F bm) (a n v : Int) (ha : U64 a) (hn : Sz n) (hv : U64 v) : Calls prog 63 #[.pointer (some ⟨bm, 0, none⟩), .int .u64 a, .int .i64 n, .int .u64 v] w (WriteP w base F bm) := by
 have H := Hd h
 have HN := Hd hn
 have hn8 : 1 ≤ n ∧ n ≤ 8 := by unfold Sz at hn; omega
 clear h hn
 go_enter func63, ntmps63
 go_wp2_with fail
 refine (rsz_any n w HN.out).mono ?_
 rintro e w1 ⟨rfl, rfl⟩
 go_wp2_with fail
 refine (find_any H.out a n true ha hn8).mono ?_
 rintro e w1 ⟨row, k, ok, rfl, rfl, hki, hrow⟩
 have HRW := Hd hrow
 clear hrow
 cases ok
 ·go_wp2
  go_ret
  exact ⟨20, rfl, by unfold I64; omega, H.out, Chg.refl _ _⟩
 obtain ⟨m, hm, hk0, hkm⟩ := HRW.out rfl
 obtain ⟨g, cap, rfl, hFg, _, hm256, hmc, _, _⟩ := hm.form (by omega)
 have HM := Hd hm
 obtain ⟨kk, rfl⟩ : ∃ q : Nat, k = (q : Int) := ⟨k.toNat, by omega⟩
 have HG := Hd hFg
 clear hm HRW hFg
 go_wp2_with fail
 go_loopw [3, 12] (fun x i wr => ∃ (j : Nat) (y : Int), (j : Int) ≤ n ∧ i = .int .i64 (j : Int) ∧ x = .int .u64 y ∧ Hid (MemRow wr base F bm (.slice (some ⟨g, 0, none⟩) m cap) m ∧ Chg F w wr)) (fun _ i _ => (n - intOf i).toNat)
 case atStart => exact ⟨0, v, by omega, rfl, rfl, HM.out, Chg.refl _ _⟩
 case round =>
  obtain ⟨j, y, hj, rfl, rfl, HX⟩ := hrel
  rename World => wr
  by_cases hlt : (j : Int) < n
  ·obtain ⟨g', cap', hge, _, _, _, _, hby, hst⟩ := HX.out.1.form (by omega)
   injection hge with hge _ _
   injection hge with hge
   injection hge with hge _ _
   subst hge
   obtain ⟨x0, hx0, _, hfr⟩ := hby (kk + j) (by omega)
   have hs1 : IntKind.i64.wrap ((kk : Int) + (j : Int)) = ((kk + j : Nat) : Int) := by rw [IntKind.wrap_i64]; omega
   obtain ⟨u, hu⟩ : ∃ u, IntKind.u8.wrap (bits .and .u64 y 255) = u := ⟨_, rfl⟩
   have hu8 : U8 u := by rw [← hu, IntKind.wrap_u8]; unfold U8; omega
   obtain ⟨s1, s2⟩ := hst (kk + j) u hu8
   have HS := Hd (And.intro s1 (HX.out.2.trans (Chg.of_grown (F := F) s2 (fun b e => .inl (by injection e with e; exact e ▸ HG.out))) (fun b q => .inl q)))
   clear hby hst s1 s2 HX
   go_wp2
   go_roundw
   case measure => first | (simp [intOf]; done) | (simp [intOf]; omega)
   case rel => exact ⟨j + 1, _, by omega, by go_num, rfl, HS.out⟩
  ·have hjn : (j : Int) = n := by omega
   have hc : decide ((j : Int) < n) = false := by simp; omega
   go_wp2
   go_ret
   exact ⟨0, rfl, by unfold I64; omega, HX.out.1.mem (fun b q => ⟨(H.out.fb b q).1, Nat.lt_of_lt_of_le (H.out.fb b q).2 HX.out.2.size⟩), HX.out.2⟩
end
end
end Go.Proofs.YtepagfkkjlbipaaGreat
