/-
  Cells, numbers, blocks that a slice reads as, apart from what may yet change. Conditions: those written in each statement.
-/
import Derived.Test.YtepagfkkjlbipaaGreatKae
import Derived.Test.YtepagfkkjlbipaaGreatKaf
namespace Go.Proofs.YtepagfkkjlbipaaGreat
open Go.RowKit
set_option linter.unusedVariables false
set_option linter.unusedSimpArgs false
set_option maxRecDepth 100000
/-- Cells that a slice reads as, outside some blocks. -/
def ReadsF (w : World) (F : Nat → Prop) (size : Nat) (A : Option Addr) (n : Nat) (xs : List Value) : Prop :=
 xs.length = n * size ∧ (0 < n → ∃ ad, A = some ad ∧ ad.block < w.heap.size ∧ ¬ F ad.block ∧ ∀ j u, xs[j]? = some u → w.cell? (ad.add j) = some u)
/-- Numbers that a slice reads as, outside some blocks. -/
def NumsF (w : World) (F : Nat → Prop) (s : Value) (l : List Int) : Prop := ∃ A c, s = .slice A l.length c ∧ l.length ≤ c ∧ ReadsF w F 1 A l.length (l.map (Value.int .i64)) ∧ (∀ x ∈ l, I64 x) ∧ l.length ≤ 5
section
variable {w w' : World} {F G H : Nat → Prop} {size n : Nat} {A : Option Addr} {xs : List Value} {s : Value} {l : List Int}
theorem ReadsF.reads (h : ReadsF w F size A n xs) : Reads w w.heap.size size A n xs := ⟨h.1, fun hn => by
 obtain ⟨ad, e, hb, _, hc⟩ := h.2 hn
 exact ⟨ad, e, hb, hc⟩⟩
theorem ReadsF.chg (h : ReadsF w F size A n xs) (hc : Chg H w w') (hH : ∀ b, H b → F b ∨ w.heap.size ≤ b) (hG : ∀ b, G b → F b ∨ w.heap.size ≤ b) : ReadsF w' G size A n xs := ⟨h.1, fun hn => by
 obtain ⟨ad, e, hb, hf, hcell⟩ := h.2 hn
 exact ⟨ad, e, Nat.lt_of_lt_of_le hb hc.size, fun q => (hG _ q).elim hf (fun k => by omega), fun j u hu => (World.cell?_of_block (by rw [block_of_add]; exact hc.block _ hb (fun q => (hH _ q).elim hf (fun k => by omega)))).trans (hcell j u hu)⟩⟩
theorem ReadsF.none_ : ReadsF w F size A 0 [] := ⟨by simp, fun h => absurd h (by omega)⟩
theorem ReadsF.of_own {base : Nat} {e : TypeId} (h : w.ownsRow base e size s n xs) (hf : ∀ b, s.ownBlock = some b → ¬ F b) : ∃ A c, s = .slice A n c ∧ n ≤ c ∧ ReadsF w F size A n xs := by
 obtain ⟨A, c, rfl, h4, h5⟩ := (RowL.of_own h).slice
 refine ⟨A, c, rfl, h4, h5.1, fun hn => ?_⟩
 obtain ⟨ad, e, hb, hc⟩ := h5.2 hn
 subst e
 exact ⟨ad, rfl, hb, hf _ rfl, hc⟩
theorem NumsF.chg (h : NumsF w F s l) (hc : Chg H w w') (hH : ∀ b, H b → F b ∨ w.heap.size ≤ b) (hG : ∀ b, G b → F b ∨ w.heap.size ≤ b) : NumsF w' G s l := by
 obtain ⟨A, c, h1, h2, h3, h4⟩ := h
 exact ⟨A, c, h1, h2, h3.chg hc hH hG, h4⟩
theorem NumsF.at_ {m c k : Nat} (h : NumsF w F (.slice A m c) l) (hk : k < m) : ∃ ad x, A = some ad ∧ ad.block < w.heap.size ∧ l[k]? = some x ∧ I64 x ∧ w.cell? (ad.add k) = some (.int .i64 x) := by
 obtain ⟨A', c', h1, h2, h3, h4, h5⟩ := h
 injection h1 with h0 h1 hc
 subst h0 h1 hc
 obtain ⟨ad, u, e, hb, hx, hc⟩ := h3.reads.at_ hk
 have hx' : l[k]? = some l[k] := List.getElem?_eq_getElem hk
 rw [List.getElem?_map, hx'] at hx
 injection hx with hx
 subst hx
 exact ⟨ad, _, e, hb, hx', h4 _ (List.getElem_mem _), hc⟩
theorem NumsF.len {m c : Nat} (h : NumsF w F (.slice A m c) l) : l.length = m ∧ m ≤ c ∧ m ≤ 5 := by
 obtain ⟨A', c', h1, h2, h3, h4, h5⟩ := h
 injection h1 with h0 h1 hc
 subst h0 h1 hc
 exact ⟨rfl, h2, h5⟩
theorem NumsF.form (h : NumsF w F s l) : ∃ A c, s = .slice A l.length c := by
 obtain ⟨A, c, h1, _⟩ := h
 exact ⟨A, c, h1⟩
theorem NumsF.nil : NumsF w F (.slice none 0 0) [] := ⟨none, 0, rfl, Nat.le_refl _, ReadsF.none_, by simp, by simp⟩
end
/-- Blocks that a slice reads as, outside some blocks of memory. -/
def BksN (w : World) (F : Nat → Prop) (A : Option Addr) (n : Nat) (l : List BD) : Prop := ∃ q : List (BD × Value), q.map (·.1) = l ∧ q.length = n ∧ ReadsF w F 3 A n (q.flatMap bkC) ∧ ∀ p ∈ q, p.1.wf ∧ NumsF w F p.2 p.1.next
section
variable {w w' : World} {F G H : Nat → Prop} {n : Nat} {A : Option Addr} {l : List BD}
theorem BksN.nil : BksN w F none 0 [] := ⟨[], rfl, rfl, ReadsF.none_, by simp⟩
theorem BksN.chg (h : BksN w F A n l) (hc : Chg H w w') (hH : ∀ b, H b → F b ∨ w.heap.size ≤ b) (hG : ∀ b, G b → F b ∨ w.heap.size ≤ b) : BksN w' G A n l := by
 obtain ⟨q, h1, h2, h3, h4⟩ := h
 exact ⟨q, h1, h2, h3.chg hc hH hG, fun p hp => ⟨(h4 p hp).1, (h4 p hp).2.chg hc hH hG⟩⟩
theorem BksN.len (h : BksN w F A n l) : l.length = n := by
 obtain ⟨q, rfl, h2, _⟩ := h
 rw [List.length_map, h2]
theorem BksN.at_ {k : Nat} (h : BksN w F A n l) (hk : k < n) : ∃ ad x s, A = some ad ∧ ad.block < w.heap.size ∧ ¬ F ad.block ∧ l[k]? = some x ∧ x.wf ∧ NumsF w F s x.next ∧ ∀ j u, (bkC (x, s))[j]? = some u → w.cell? ((ad.add (k * 3)).add j) = some u := by
 obtain ⟨q, rfl, h2, h3, h4⟩ := h
 obtain ⟨ad, e, hb, hf, hc⟩ := h3.2 (by omega)
 have hkq : k < q.length := by omega
 have hx : q[k]? = some q[k] := List.getElem?_eq_getElem hkq
 obtain ⟨h5, h6⟩ := h4 _ (List.getElem_mem hkq)
 refine ⟨ad, q[k].1, q[k].2, e, hb, hf, by rw [List.getElem?_map, hx]; rfl, h5, h6, fun j u hu => ?_⟩
 rw [add_of_add]
 exact hc _ u (bflat_at bkC 3 q (fun z hz => rfl) k j _ u hx hu)
end
end Go.Proofs.YtepagfkkjlbipaaGreat
