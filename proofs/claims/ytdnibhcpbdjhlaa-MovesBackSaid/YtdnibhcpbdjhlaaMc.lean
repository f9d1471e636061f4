/-
  Plain words on moves that happen at once, put in order: circles, and how many moves there are. Conditions: those written in each statement.
-/
import Derived.Test.YtdnibhcpbdjhlaaMb
namespace Go.Proofs.Ytdnibhcpbdjhlaa
set_option linter.unusedVariables false
set_option linter.unusedSimpArgs false
/-- Where one comes, going from "to" to "from" so many times. -/
def itr (l : List Mv) : Nat → Int → Option Int
  | 0, r => some r
  | n + 1, r => (itr l n r).bind (lk l)
theorem itr_add (l : List Mv) (m : Nat) : ∀ (n : Nat) (r : Int), itr l (m + n) r = (itr l m r).bind (itr l n)
  | 0, r => by simp [itr]
  | n + 1, r => by
    rw [show m + (n + 1) = m + n + 1 by omega, itr, itr_add l m n r]
    cases itr l m r <;> rfl
def OnC (l : List Mv) (r : Int) : Prop := ∃ n, 0 < n ∧ itr l n r = some r
def Lst (l : List Mv) (r : Int) : Prop := OnC l r ∧ ∀ n q, itr l n r = some q → r ≤ q
/-- There are n circles of more than one. -/
def CycN (l : List Mv) (n : Nat) : Prop := ∃ L : List Int, L.Nodup ∧ (∀ r, r ∈ L ↔ Lst l r ∧ lk l r ≠ some r) ∧ L.length = n
theorem cyc_one {l : List Mv} {n m : Nat} (h : CycN l n) (g : CycN l m) : n = m := by
  obtain ⟨L, h1, h2, rfl⟩ := h
  obtain ⟨M, g1, g2, rfl⟩ := g
  have a := pig_le h1 fun x hx => (g2 x).2 ((h2 x).1 hx)
  have b := pig_le g1 fun x hx => (h2 x).2 ((g2 x).1 hx)
  omega
theorem itr_mul {l : List Mv} {p : Nat} {r : Int} (h : itr l p r = some r) : ∀ k, itr l (p * k) r = some r
  | 0 => by rw [Nat.mul_zero]; rfl
  | k + 1 => by rw [Nat.mul_succ, Nat.add_comm, itr_add, h]; exact itr_mul h k
/-- From a circle's place one comes everywhere and back. -/
theorem onc_back {l : List Mv} {r : Int} (h : OnC l r) (n : Nat) : ∃ q m, itr l n r = some q ∧ itr l m q = some r ∧ 0 < n + m := by
  obtain ⟨p, hp, e⟩ := h
  have hm := itr_mul e (n + 1)
  have hge : n < p * (n + 1) := by
    have : 1 * (n + 1) ≤ p * (n + 1) := Nat.mul_le_mul_right _ hp
    omega
  rw [show p * (n + 1) = n + (p * (n + 1) - n) by omega, itr_add] at hm
  cases hq : itr l n r with
  | none => rw [hq] at hm; cases hm
  | some q =>
    rw [hq] at hm
    exact ⟨q, _, rfl, hm, by omega⟩
theorem onc_step {l : List Mv} {r q : Int} {n : Nat} (h : OnC l r) (hq : itr l n r = some q) : OnC l q ∧ ∃ m, itr l m q = some r := by
  obtain ⟨q', m, h1, h2, h3⟩ := onc_back h n
  rw [hq] at h1
  injection h1 with h1
  subst h1
  exact ⟨⟨m + n, by omega, by rw [itr_add, h2]; exact hq⟩, m, h2⟩
/-- Fewer moves, the same way. -/
theorem itr_sub {l l' : List Mv} (h : ∀ q f, lk l' q = some f → lk l q = some f) : ∀ (n : Nat) (r q : Int), itr l' n r = some q → itr l n r = some q
  | 0, r, q, e => e
  | n + 1, r, q, e => by
    rw [itr] at e ⊢
    cases hk : itr l' n r with
    | none => rw [hk] at e; cases e
    | some k =>
      rw [hk] at e
      rw [itr_sub h n r k hk]
      exact h _ _ e
theorem lst_sub {l l' : List Mv} (h : ∀ q f, lk l' q = some f → lk l q = some f) {r : Int} (hc : OnC l' r) : Lst l' r ↔ Lst l r := by
  have hs := itr_sub h
  constructor
  · rintro ⟨_, h2⟩
    refine ⟨by obtain ⟨n, h0, h1⟩ := hc; exact ⟨n, h0, hs _ _ _ h1⟩, fun n q hq => ?_⟩
    obtain ⟨q', _, h3, _⟩ := onc_back hc n
    rw [hs _ _ _ h3] at hq
    injection hq with hq
    subst hq
    exact h2 n q' h3
  · rintro ⟨_, h2⟩
    exact ⟨hc, fun n q hq => h2 n q (hs _ _ _ hq)⟩
/-- .. where only places off a circle are left out. -/
theorem onc_sub {l l' : List Mv} {r : Int} (hc : OnC l r) (h : ∀ n q f, itr l n r = some q → lk l q = some f → lk l' q = some f) : OnC l' r := by
  have hs : ∀ n q, itr l n r = some q → itr l' n r = some q := by
    intro n
    induction n with
    | zero => exact fun q hq => hq
    | succ n ih =>
      intro q hq
      rw [itr] at hq ⊢
      cases hk : itr l n r with
      | none => rw [hk] at hq; cases hq
      | some k =>
        rw [hk] at hq
        rw [ih k hk]
        exact h n k q hk hq
  obtain ⟨n, h0, h1⟩ := hc
  exact ⟨n, h0, hs n r h1⟩
theorem cyc_same {l l' : List Mv} (h : ∀ r, (Lst l r ∧ lk l r ≠ some r) ↔ (Lst l' r ∧ lk l' r ≠ some r)) {n : Nat} (hn : CycN l n) : CycN l' n := by
  obtain ⟨L, h1, h2, h3⟩ := hn
  exact ⟨L, h1, fun r => (h2 r).trans (h r), h3⟩
/-- A place on a circle is a "from". -/
theorem onc_from {l : List Mv} {r : Int} (h : OnC l r) : ∃ q, (q, r) ∈ l ∧ ∃ n, itr l n r = some q := by
  obtain ⟨n, h0, h1⟩ := h
  match n, h0 with
  | n + 1, _ =>
    rw [itr] at h1
    cases hq : itr l n r with
    | none => rw [hq] at h1; cases h1
    | some q =>
      rw [hq] at h1
      exact ⟨q, lk_mem h1, n, hq⟩
theorem lk_sub {a b : List Mv} {x : Mv} (hn : ((a ++ x :: b).map (·.1)).Nodup) {q f : Int} (h : lk (a ++ b) q = some f) : lk (a ++ x :: b) q = some f := by
  have hm := lk_mem h
  refine mem_lk hn ?_
  rcases List.mem_append.1 hm with h | h
  · exact List.mem_append.2 (.inl h)
  · exact List.mem_append.2 (.inr (List.mem_cons_of_mem _ h))
theorem lk_rest {a b : List Mv} {x : Mv} (hn : ((a ++ x :: b).map (·.1)).Nodup) {q f : Int} (hq : q ≠ x.1) (h : lk (a ++ x :: b) q = some f) : lk (a ++ b) q = some f := by
  have hm := lk_mem h
  have hsub : (a ++ b).Sublist (a ++ x :: b) := List.Sublist.append (List.Sublist.refl a) (List.sublist_cons_self x b)
  refine mem_lk ((hsub.map _).nodup hn) ?_
  rcases List.mem_append.1 hm with h | h
  · exact List.mem_append.2 (.inl h)
  · rcases List.mem_cons.1 h with h | h
    · exact absurd (by rw [← h]) hq
    · exact List.mem_append.2 (.inr h)
/-- A move that is free stands on no circle. -/
theorem cyc_free {s : Int} {a b : List Mv} {x : Mv} (hk : OkM s (a ++ x :: b)) (hf : ∀ y ∈ a ++ b, y.2 ≠ x.1) {n : Nat} (h : CycN (a ++ x :: b) n) : CycN (a ++ b) n := by
  refine cyc_same (fun r => ?_) h
  have hno : ∀ (L : List Mv), (∀ y ∈ L, y.1 ≠ y.2) → lk L r ≠ some r := fun L hL e => hL _ (lk_mem e) rfl
  have k1 := hno _ hk.2.2
  have k2 := hno _ (ok_sub hk).2.2
  have hs := fun q f (h : lk (a ++ b) q = some f) => lk_sub hk.1 h
  constructor
  · rintro ⟨h1, _⟩
    refine ⟨(lst_sub hs ?_).2 h1, k2⟩
    refine onc_sub h1.1 fun n q f hq hl => lk_rest hk.1 (fun e => ?_) hl
    obtain ⟨z, hz, _⟩ := onc_from (onc_step h1.1 hq).1
    rw [e] at hz
    rcases List.mem_append.1 hz with h | h
    · exact hf _ (List.mem_append.2 (.inl h)) rfl
    · rcases List.mem_cons.1 h with h | h
      · exact hk.2.2 x (by simp) (congrArg Prod.snd h)
      · exact hf _ (List.mem_append.2 (.inr h)) rfl
  · rintro ⟨h1, _⟩
    exact ⟨(lst_sub hs h1.1).1 h1, k1⟩
theorem exists_min (P : Int → Prop) : ∀ L : List Int, (∃ q ∈ L, P q) → ∃ m ∈ L, P m ∧ ∀ q ∈ L, P q → m ≤ q
  | [], h => by obtain ⟨q, hq, _⟩ := h; simp at hq
  | x :: t, h => by
    by_cases ht : ∃ q ∈ t, P q
    · obtain ⟨m, hm, hp, hl⟩ := exists_min P t ht
      by_cases hx : P x ∧ x ≤ m
      · refine ⟨x, by simp, hx.1, fun q hq hpq => ?_⟩
        rcases List.mem_cons.1 hq with rfl | hq
        · omega
        · have := hl q hq hpq; omega
      · refine ⟨m, by simp [hm], hp, fun q hq hpq => ?_⟩
        rcases List.mem_cons.1 hq with rfl | hq
        · have : ¬ q ≤ m := fun e => hx ⟨hpq, e⟩
          omega
        · exact hl q hq hpq
    · obtain ⟨q, hq, hp⟩ := h
      rcases List.mem_cons.1 hq with rfl | hq
      · refine ⟨q, by simp, hp, fun z hz hpz => ?_⟩
        rcases List.mem_cons.1 hz with rfl | hz
        · omega
        · exact absurd ⟨z, hz, hpz⟩ ht
      · exact absurd ⟨q, hq, hp⟩ ht
theorem itr_inj {l : List Mv} (hn : (l.map (·.2)).Nodup) (hi : ∀ p q f, (p, f) ∈ l → (q, f) ∈ l → p = q) : ∀ (n : Nat) (a b c : Int), itr l n a = some c → itr l n b = some c → a = b
  | 0, a, b, c, h, g => by
    injection h with h
    injection g with g
    rw [h, g]
  | n + 1, a, b, c, h, g => by
    rw [itr] at h g
    cases ha : itr l n a with
    | none => rw [ha] at h; cases h
    | some u =>
      cases hb : itr l n b with
      | none => rw [hb] at g; cases g
      | some v =>
        rw [ha] at h
        rw [hb] at g
        have := hi u v c (lk_mem h) (lk_mem g)
        subst this
        exact itr_inj hn hi n a b u ha hb
theorem from_one : ∀ {l : List Mv}, (l.map (·.2)).Nodup → ∀ p q f, (p, f) ∈ l → (q, f) ∈ l → p = q
  | [], _, p, q, f, h, _ => by simp at h
  | x :: t, hn, p, q, f, h, g => by
    rw [List.map_cons, List.nodup_cons] at hn
    rcases List.mem_cons.1 h with h | h <;> rcases List.mem_cons.1 g with g | g
    · rw [← h] at g; injection g with g; exact g.symm
    · exact absurd (List.mem_map.2 ⟨_, g, by rw [← h]⟩) hn.1
    · exact absurd (List.mem_map.2 ⟨_, h, by rw [← g]⟩) hn.1
    · exact from_one hn.2 p q f h g
/-- Where each "from" is a "to", and none twice, all are on circles. -/
theorem all_onc {l : List Mv} (h1 : (l.map (·.1)).Nodup) (h2 : (l.map (·.2)).Nodup) (hs : ∀ f ∈ l.map (·.2), f ∈ l.map (·.1)) {r : Int} (hr : r ∈ l.map (·.1)) : OnC l r := by
  have hdef : ∀ n, ∃ q, itr l n r = some q ∧ q ∈ l.map (·.1) := by
    intro n
    induction n with
    | zero => exact ⟨r, rfl, hr⟩
    | succ n ih =>
      obtain ⟨q, hq, hm⟩ := ih
      cases hl : lk l q with
      | none => exact absurd hm (lk_none.1 hl)
      | some f => exact ⟨f, by rw [itr, hq]; exact hl, hs f (List.mem_map.2 ⟨_, lk_mem hl, rfl⟩)⟩
  refine Classical.byContradiction fun hno => ?_
  have hne : ∀ i j, i < j → itr l i r ≠ itr l j r := by
    intro i j hij e
    obtain ⟨q, hq, _⟩ := hdef i
    rw [hq] at e
    have e2 := e.symm
    rw [show j = (j - i) + i by omega, itr_add] at e2
    cases hd : itr l (j - i) r with
    | none => rw [hd] at e2; cases e2
    | some u =>
      rw [hd] at e2
      have := itr_inj h2 (from_one h2) i u r q e2 hq
      subst this
      exact hno ⟨j - i, by omega, hd⟩
  have hnd : ((List.range (l.length + 1)).map fun n => (itr l n r).getD 0).Nodup := by
    unfold List.Nodup
    rw [List.pairwise_map]
    refine List.Pairwise.imp ?_ (List.pairwise_lt_range (n := l.length + 1))
    intro i j hij e
    obtain ⟨p, hp, _⟩ := hdef i
    obtain ⟨q, hq, _⟩ := hdef j
    rw [hp, hq] at e
    exact hne i j hij (by rw [hp, hq]; simpa using e)
  have := pig_le hnd (F := l.map (·.1)) fun x hx => by
    obtain ⟨i, _, rfl⟩ := List.mem_map.1 hx
    obtain ⟨q, hq, hm⟩ := hdef i
    rw [hq]
    exact hm
  simp at this
  omega
/-- A circle that is cut is one circle less. -/
theorem cyc_cut {s : Int} {x : Mv} {t : List Mv} (hk : OkM s (x :: t)) (h : freeP (x :: t) = none) {n : Nat} (hn : CycN (x :: t) n) : ∃ m, n = m + 1 ∧ CycN ((x.1, s) :: t) m := by
  obtain ⟨p1, p2, p3⟩ := stuck hk h
  have hno : ∀ (L : List Mv) (r : Int), (∀ y ∈ L, y.1 ≠ y.2) → lk L r ≠ some r := fun L r hL e => hL _ (lk_mem e) rfl
  have hk2 := ok_brk hk
  have hx := all_onc hk.1 p1 p2 (r := x.1) (by simp)
  obtain ⟨L, h1, h2, h3⟩ := hn
  have hout : ∀ n q, itr (x :: t) n x.1 = some q → q ∈ (x :: t).map (·.1) := by
    intro n
    induction n with
    | zero => intro q hq; injection hq with hq; subst hq; simp
    | succ n ih =>
      intro q hq
      rw [itr] at hq
      cases hu : itr (x :: t) n x.1 with
      | none => rw [hu] at hq; cases hq
      | some u =>
        rw [hu] at hq
        exact p2 q (List.mem_map.2 ⟨_, lk_mem hq, rfl⟩)
  obtain ⟨m, hm, ⟨i, hi⟩, hmin⟩ := exists_min (fun q => ∃ n, itr (x :: t) n x.1 = some q) ((x :: t).map (·.1)) ⟨x.1, by simp, 0, rfl⟩
  have hmo := onc_step hx hi
  have hml : Lst (x :: t) m := by
    refine ⟨hmo.1, fun n q hq => ?_⟩
    have hq2 : itr (x :: t) (i + n) x.1 = some q := by rw [itr_add, hi]; exact hq
    exact hmin q (hout _ q hq2) ⟨_, hq2⟩
  have huniq : ∀ r, Lst (x :: t) r → (∃ n, itr (x :: t) n r = some x.1) → r = m := by
    rintro r hr ⟨j, hj⟩
    have a1 : r ≤ m := hr.2 (j + i) m (by rw [itr_add, hj]; exact hi)
    obtain ⟨_, k, hkk⟩ := onc_step hr.1 hj
    obtain ⟨_, u, hu⟩ := hmo
    have a2 : m ≤ r := hml.2 (u + k) r (by rw [itr_add, hu]; exact hkk)
    omega
  have hmL : m ∈ L := (h2 m).2 ⟨hml, hno _ _ hk.2.2⟩
  have hlen := List.length_pos_of_mem hmL
  refine ⟨n - 1, by omega, L.erase m, h1.erase m, fun r => ?_, by rw [List.length_erase_of_mem hmL, h3]⟩
  rw [h1.mem_erase_iff, h2 r]
  have s1 : ∀ q f, lk t q = some f → lk (x :: t) q = some f := fun q f h => lk_sub (a := []) hk.1 h
  have s2 : ∀ q f, lk t q = some f → lk ((x.1, s) :: t) q = some f := fun q f h => lk_sub (a := []) hk2.1 h
  have htn : lk t x.1 = none := by
    have := hk.1
    rw [List.map_cons, List.nodup_cons] at this
    exact lk_none.2 this.1
  have hsn : lk ((x.1, s) :: t) s = none := lk_none.2 hk2.2.1
  constructor
  · rintro ⟨hne, hl, _⟩
    have hc : OnC t r := by
      refine onc_sub hl.1 fun n q f hq hf => lk_rest (a := []) hk.1 (fun e => hne (huniq r hl ⟨n, by rw [hq, e]⟩)) hf
    exact ⟨(lst_sub s2 hc).1 ((lst_sub s1 hc).2 hl), hno _ _ hk2.2.2⟩
  · rintro ⟨hl, _⟩
    have hc : OnC t r := by
      refine onc_sub hl.1 fun n q f hq hf => lk_rest (a := []) hk2.1 (fun e => ?_) hf
      dsimp only at e
      subst e
      have hq2 : itr ((x.1, s) :: t) (n + 1) r = some s := by
        rw [itr, hq]
        show lk ((x.1, s) :: t) x.1 = some s
        unfold lk
        rw [if_pos rfl]
      obtain ⟨z, _, hz, _⟩ := onc_back hl.1 (n + 2)
      rw [itr, hq2] at hz
      change lk _ s = some z at hz
      rw [hsn] at hz
      cases hz
    have hl2 := (lst_sub s1 hc).1 ((lst_sub s2 hc).2 hl)
    refine ⟨fun e => ?_, hl2, hno _ _ hk.2.2⟩
    subst e
    obtain ⟨_, u, hu⟩ := hmo
    obtain ⟨z, _, hz, _⟩ := onc_back hc (u + 1)
    obtain ⟨y, _, hy, _⟩ := onc_back hc u
    have := itr_sub s1 _ _ _ hy
    rw [hu] at this
    injection this with this
    subst this
    rw [itr, hy] at hz
    change lk t x.1 = some z at hz
    rw [htn] at hz
    cases hz
/-- As many moves as there were, and one more a circle. -/
theorem run_len {s : Int} : ∀ (n : Nat) {l : List Mv}, meas l ≤ n → OkM s l → ∀ c, CycN l c → (runA s l).length = l.length + c
  | 0, l, h, hk, c, hc => by
    have : l = [] := List.eq_nil_of_length_eq_zero (by unfold meas at h; omega)
    subst this
    obtain ⟨L, h1, h2, h3⟩ := hc
    have : L = [] := by
      cases L with
      | nil => rfl
      | cons r u =>
        obtain ⟨⟨hr, _⟩, _⟩ := (h2 r).1 (by simp)
        obtain ⟨q, hq, _⟩ := onc_from hr
        simp at hq
    subst this
    rw [run_nil]
    simpa using h3
  | n + 1, l, h, hk, c, hc => by
    by_cases hl : l = []
    · subst hl
      obtain ⟨L, h1, h2, h3⟩ := hc
      have : L = [] := by
        cases L with
        | nil => rfl
        | cons r u =>
          obtain ⟨⟨hr, _⟩, _⟩ := (h2 r).1 (by simp)
          obtain ⟨q, hq, _⟩ := onc_from hr
          simp at hq
      subst this
      rw [run_nil]
      simpa using h3
    · have hlt := step_lt hk hl
      have hk2 := step_ok hk hl
      rw [run_step hk hl, List.length_cons]
      cases hf : freeP l with
      | some k =>
        obtain ⟨a, x, b, e, h1, h2, _, _, h3⟩ := free_split hf
        rw [step_free hf h1 h2] at hk2 hlt ⊢
        dsimp only at hk2 hlt ⊢
        rw [e] at hk hc ⊢
        rw [run_len n (by omega) hk2 c (cyc_free hk h3 hc)]
        simp
        omega
      | none =>
        match l, hl with
        | x :: t, _ =>
          rw [step_stuck hk hf] at hk2 hlt ⊢
          dsimp only at hk2 hlt ⊢
          obtain ⟨m, rfl, hm⟩ := cyc_cut hk hf hc
          rw [run_len n (by omega) hk2 m hm]
          simp
          omega
end Go.Proofs.Ytdnibhcpbdjhlaa
