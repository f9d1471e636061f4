/-
  Parts of the proof of SymbcSound. Conditions: those written in each statement.
-/
import Derived.Test.YtepagfkkjlbipaaGreatKbb
set_option linter.unusedVariables false
set_option linter.unusedSimpArgs false
set_option maxHeartbeats 64000000
set_option maxRecDepth 100000
namespace Go.Proofs.YtepagfkkjlbipaaGreat
open Tryz
section
open Go.RowKit
/-! ### shifts by a number that is not cut -/
theorem and_mod {n : Int} {k : Nat} (hk : k ≤ 6) : bits .and .i64 n (((2 : Nat) ^ k : Nat) - 1 : Int) = n % ((2 : Nat) ^ k : Nat) := by
 have h2 : (2 : Nat) ^ k ≤ 64 := by have := Nat.pow_le_pow_right (n := 2) (by omega) hk; simpa using this
 have hp : 0 < (2 : Nat) ^ k := Nat.two_pow_pos k
 have e : (((2 : Nat) ^ k : Nat) - 1 : Int) = ((2 ^ k - 1 : Nat) : Int) := by omega
 rw [e]
 show IntKind.i64.wrap ((BitVec.ofInt 64 n &&& BitVec.ofInt 64 ((2 ^ k - 1 : Nat) : Int)).toNat : Int) = _
 rw [BitVec.toNat_and, ofInt_i64 _ (by omega), Nat.and_two_pow_sub_one_eq_mod, IntKind.wrap_i64]
 have hlt : (BitVec.ofInt 64 n).toNat % 2 ^ k < 2 ^ k := Nat.mod_lt _ hp
 have hv : ((BitVec.ofInt 64 n).toNat : Int) = n % 18446744073709551616 := by simp [BitVec.toNat_ofInt]; omega
 have hd : n % 18446744073709551616 % ((2 : Nat) ^ k : Nat) = n % ((2 : Nat) ^ k : Nat) := by
  refine Int.emod_emod_of_dvd n ?_
  have hd : ((2 : Nat) ^ k) ∣ 2 ^ 64 := Nat.pow_dvd_pow 2 (by omega)
  have h3 : (2 : Nat) ^ 64 = 18446744073709551616 := by decide
  rw [h3] at hd
  exact Int.natCast_dvd_natCast.2 hd
 have hc : (((BitVec.ofInt 64 n).toNat % 2 ^ k : Nat) : Int) = n % ((2 : Nat) ^ k : Nat) := by
  rw [Int.natCast_emod, hv, hd]
 rw [hc] at *
 omega
theorem by_imm {x n : Int} (hx : x = 32 ∨ x = 64) : byV x (IntKind.u64.wrap (bits .and .i64 n (x - 1))) = byV x (IntKind.u64.wrap n) := by
 rw [byV_eq hx (wrap_u64 _), byV_eq hx (wrap_u64 _)]
 rcases hx with rfl | rfl
 ·have h := and_mod (n := n) (k := 5) (by omega)
  rw [show (32 : Int) - 1 = (((2 : Nat) ^ 5 : Nat) - 1 : Int) by rfl, h]
  unfold cutV
  simp only [IntKind.wrap_u64]
  show _ = _
  have : ((2 : Nat) ^ 5 : Nat) = 32 := rfl
  simp
 ·have h := and_mod (n := n) (k := 6) (by omega)
  rw [show (64 : Int) - 1 = (((2 : Nat) ^ 6 : Nat) - 1 : Int) by rfl, h]
  unfold cutV
  simp only [IntKind.wrap_u64]
  have : ((2 : Nat) ^ 6 : Nat) = 64 := rfl
  simp
theorem do_shift {op x a b b' : Int} (hs : shiftsB op = true) (h : byV x b = byV x b') : doU op x a b = doU op x a b' := by
 unfold doU
 rw [h]
 unfold shiftsB at hs
 simp only [Bool.or_eq_true, beq_iff_eq] at hs
 rcases hs with rfl | rfl | rfl <;> rfl
/-! ### the model -/
def regV (r : List Int) (i : Int) : Int := r.getD i.toNat 0
def secM (r : List Int) (x : ID) : Int := if x.byReg = true then regV r x.src else IntKind.u64.wrap x.imm
def aluM (r : List Int) (x : ID) : Int := doU x.op x.width (regV r x.dst) (secM r x)
structure TrE where
 num : Int
 args : List Int
 ans : Int
def MStep (x : ID) (i : Int) (r : List Int) (i' : Int) (r' : List Int) (tr : List TrE) : Prop :=
 (x.kind = 0 ∧ i' = i + 1 ∧ r' = r.set x.dst.toNat (aluM r x) ∧ tr = []) ∨
 (x.kind = 1 ∧ i' = i + 1 ∧ (∃ v, U64 v ∧ cutV (8 * x.size) v = v ∧ r' = r.set x.dst.toNat v) ∧ tr = []) ∨
 (x.kind = 2 ∧ i' = i + 1 ∧ r' = r ∧ tr = []) ∨
 (x.kind = 3 ∧ i' = (if holdsU x.op 64 (regV r x.dst) (secM r x) = true then tgtN i x else i + 1) ∧ r' = r ∧ tr = []) ∨
 (x.kind = 4 ∧ i' = tgtN i x ∧ r' = r ∧ tr = []) ∨
 (x.kind = 5 ∧ i' = i + 1 ∧ ∃ a, U64 a ∧ r' = fiveL (r.set 0 a) 0 ∧ tr = [⟨x.imm, (r.drop 1).take (argsN x.imm).toNat, a⟩])
def RegOk (r : List Int) : Prop := r.length = 11 ∧ ∀ v ∈ r, U64 v
inductive Path (l : List ID) : List (Int × List Int) → List TrE → Prop where
 | one (i : Nat) (x : ID) (r : List Int) (hx : l[i]? = some x) (hr : RegOk r) : Path l [((i : Int), r)] []
 | cons (i : Nat) (x : ID) (r : List Int) (i' : Int) (r' : List Int) (q : List (Int × List Int)) (tr T : List TrE) (hx : l[i]? = some x) (hr : RegOk r) (hs : MStep x i r i' r' tr) (hp : Path l ((i', r') :: q) T) : Path l (((i : Int), r) :: (i', r') :: q) (tr ++ T)
theorem Path.head {l : List ID} {p : Int × List Int} {q : List (Int × List Int)} {T : List TrE} (h : Path l (p :: q) T) : ∃ (i : Nat) (x : ID), p.1 = (i : Int) ∧ l[i]? = some x ∧ RegOk p.2 := by
 cases h with
 | one i x r hx hr => exact ⟨i, x, rfl, hx, hr⟩
 | cons i x r i' r' q tr T hx hr hs hp => exact ⟨i, x, rfl, hx, hr⟩
theorem Path.next {l : List ID} {p p' : Int × List Int} {q : List (Int × List Int)} {T : List TrE} (h : Path l (p :: p' :: q) T) : ∃ (i : Nat) (x : ID) (tr T' : List TrE), p.1 = (i : Int) ∧ l[i]? = some x ∧ RegOk p.2 ∧ MStep x i p.2 p'.1 p'.2 tr ∧ T = tr ++ T' ∧ Path l (p' :: q) T' := by
 cases h with
 | cons i x r i' r' q tr T hx hr hs hp => exact ⟨i, x, tr, T, rfl, hx, hr, hs, rfl, hp⟩
/-! ### the machine on values goes along -/
def evB (x : ID) : Bool := x.kind == 1 || (x.kind == 2 || x.kind == 5)
theorem five_zero (r : List Int) (n : Int) : (fiveL r n).getD 0 0 = r.getD 0 0 := by
 unfold fiveL
 rw [List.getD_eq_getElem?_getD, List.getD_eq_getElem?_getD]
 simp [List.getElem?_set]
theorem reg_set {r : List Int} (hl : r.length = 11) {i : Int} (hi : 0 ≤ i ∧ i ≤ 10) (v : Int) : regV (r.set i.toNat v) i = v := by
 unfold regV
 rw [getD_set r i.toNat i.toNat v (by omega), if_pos rfl]
theorem vm_step {vs : List Int} {m : VM} {x : ID} {i : Int} {r : List Int} {i' : Int} {r' : List Int} {tr : List TrE} (M : MayF x) (hr : m.regs = r) (ho : RegOk r) (S : MStep x i r i' r' tr) (h1 : x.kind = 1 → bringV vs m.n (8 * x.size) = regV r' x.dst) (h5 : x.kind = 5 → bringV vs m.n 64 = regV r' 0) : (stepV vs m x).regs = r' := by
 subst hr
 unfold stepV
 rcases S with ⟨k, _, e, _⟩ | ⟨k, _, ⟨v, hv, hc, e⟩, _⟩ | ⟨k, _, e, _⟩ | ⟨k, _, e, _⟩ | ⟨k, _, e, _⟩ | ⟨k, _, a, ha, e, _⟩
 ·rw [if_pos k, e]
  show m.regs.set _ _ = _
  congr 1
  unfold aluM secV secM VM.reg regV
  by_cases hb : x.byReg = true
  ·rw [if_pos hb, if_pos hb]
  ·rw [if_neg hb, if_neg hb]
   by_cases hs : shiftsB x.op = true
   ·rw [if_pos ⟨k, hs⟩]
    exact do_shift hs (by_imm (M.alu k).2)
   ·rw [if_neg (fun q => hs q.2)]
 ·rw [if_neg (by omega), if_pos k]
  show m.regs.set _ _ = _
  rw [h1 k, e, reg_set ho.1 M.dst]
 ·rw [if_neg (by omega), if_neg (by omega), if_pos k, e]
 ·rw [if_neg (by omega), if_neg (by omega), if_neg (by omega), if_neg (by omega), e]
 ·rw [if_neg (by omega), if_neg (by omega), if_neg (by omega), if_neg (by omega), e]
 ·rw [if_neg (by omega), if_neg (by omega), if_neg (by omega), if_pos k]
  show fiveL (m.regs.set 0 _) 0 = _
  have : regV r' 0 = a := by
   rw [e]
   show (fiveL _ 0).getD 0 0 = a
   rw [five_zero, getD_set m.regs 0 0 a (by have := ho.1; omega), if_pos rfl]
  rw [h5 k, this, e]
theorem step_next {x : ID} {i : Int} {r : List Int} {i' : Int} {r' : List Int} {tr : List TrE} (S : MStep x i r i' r' tr) (h : ¬ (x.kind = 3 ∨ x.kind = 4 ∨ x.kind = 6)) : i' = i + 1 := by
 rcases S with ⟨k, e, _⟩ | ⟨k, e, _⟩ | ⟨k, e, _⟩ | ⟨k, e, _⟩ | ⟨k, e, _⟩ | ⟨k, e, _⟩
 ·exact e
 ·exact e
 ·exact e
 ·exact absurd (.inl k) h
 ·exact absurd (.inr (.inl k)) h
 ·exact e
theorem goVV_app (vs : List Int) (m : VM) : ∀ (a b : List ID), goVV vs m (a ++ b) = goVV vs (goVV vs m a) b := by
 intro a
 induction a generalizing m with
 | nil => intro b; rfl
 | cons x r ih => intro b; exact ih (stepV vs m x) b
theorem stepV_n (vs : List Int) (m : VM) (x : ID) : m.n ≤ (stepV vs m x).n := by
 unfold stepV
 split
 ·exact Nat.le_refl _
 split
 ·exact Nat.le_succ _
 split
 ·exact Nat.le_refl _
 split
 ·exact Nat.le_succ _
 ·exact Nat.le_refl _
theorem goVV_n (vs : List Int) : ∀ (l : List ID) (m : VM), m.n ≤ (goVV vs m l).n
 | [], m => Nat.le_refl _
 | x :: r, m => Nat.le_trans (stepV_n vs m x) (goVV_n vs r (stepV vs m x))
theorem stepV_congr {vs ws : List Int} {m : VM} {x : ID} (h : m.n < (stepV vs m x).n → vs.getD (38 + 3 * m.n) 0 = ws.getD (38 + 3 * m.n) 0) : stepV vs m x = stepV ws m x := by
 unfold stepV bringV at *
 split
 ·rfl
 split
 ·rename_i h0 h1
  rw [if_neg h0, if_pos h1] at h
  rw [h (Nat.lt_succ_self _)]
 split
 ·rfl
 split
 ·rename_i h0 h1 h2 h5
  rw [if_neg h0, if_neg h1, if_neg h2, if_pos h5] at h
  rw [h (Nat.lt_succ_self _)]
 ·rfl
theorem goVV_congr {vs ws : List Int} : ∀ (l : List ID) (m : VM), (∀ k, m.n ≤ k → k < (goVV vs m l).n → vs.getD (38 + 3 * k) 0 = ws.getD (38 + 3 * k) 0) → goVV vs m l = goVV ws m l
 | [], m, _ => rfl
 | x :: r, m, h => by
  have e : stepV vs m x = stepV ws m x := stepV_congr fun hlt => h m.n (Nat.le_refl _) (Nat.lt_of_lt_of_le hlt (goVV_n vs r _))
  show goVV vs (stepV vs m x) r = goVV ws (stepV ws m x) r
  rw [← e]
  exact goVV_congr r (stepV vs m x) fun k h1 h2 => h k (Nat.le_trans (stepV_n vs m x) h1) h2
def evV (vs : List Int) (m : VM) (x : ID) : EvD :=
 if x.kind = 1 then ⟨0, x.size, placeV m x.src x.off, bringV vs m.n (8 * x.size), 0, []⟩
 else if x.kind = 2 then ⟨1, x.size, placeV m x.dst x.off, cutV (8 * x.size) (m.reg x.src), 0, []⟩
 else ⟨2, 0, 0, bringV vs m.n 64, x.imm, (m.regs.drop 1).take (argsN x.imm).toNat⟩
theorem stepV_evs (vs : List Int) (m : VM) (x : ID) : (stepV vs m x).evs = if evB x = true then m.evs ++ [evV vs m x] else m.evs := by
 unfold stepV evB evV
 by_cases h0 : x.kind = 0
 ·rw [if_pos h0, if_neg (by rw [h0]; decide)]
 rw [if_neg h0]
 by_cases h1 : x.kind = 1
 ·rw [if_pos h1, if_pos (by rw [h1]; rfl), if_pos h1]
 rw [if_neg h1]
 by_cases h2 : x.kind = 2
 ·rw [if_pos h2, if_pos (by rw [h2]; rfl), if_neg h1, if_pos h2]
 rw [if_neg h2]
 by_cases h5 : x.kind = 5
 ·rw [if_pos h5, if_pos (by rw [h5]; rfl), if_neg h1, if_neg h2]
 rw [if_neg h5, if_neg]
 simp only [Bool.or_eq_true, beq_iff_eq]
 omega
theorem stepV_more (vs : List Int) (m : VM) (x : ID) : (stepV vs m x).n = if x.kind = 1 ∨ x.kind = 5 then m.n + 1 else m.n := by
 unfold stepV
 by_cases h0 : x.kind = 0
 ·rw [if_pos h0, if_neg (by omega)]
 rw [if_neg h0]
 by_cases h1 : x.kind = 1
 ·rw [if_pos h1, if_pos (.inl h1)]
 rw [if_neg h1]
 by_cases h2 : x.kind = 2
 ·rw [if_pos h2, if_neg (by omega)]
 rw [if_neg h2]
 by_cases h5 : x.kind = 5
 ·rw [if_pos h5, if_pos (.inr h5)]
 rw [if_neg h5, if_neg (by omega)]
theorem goVV_evs (vs : List Int) : ∀ (l : List ID) (m : VM), ∃ t, (goVV vs m l).evs = m.evs ++ t
 | [], m => ⟨[], by rw [List.append_nil]; rfl⟩
 | x :: r, m => by
  obtain ⟨t, ht⟩ := goVV_evs vs r (stepV vs m x)
  show ∃ t, (goVV vs (stepV vs m x) r).evs = _
  rw [ht, stepV_evs]
  split
  ·exact ⟨[evV vs m x] ++ t, by rw [List.append_assoc]⟩
  ·exact ⟨t, rfl⟩
theorem ev_at (vs : List Int) (m : VM) {l : List ID} {j : Nat} {x : ID} (hx : l[j]? = some x) (he : evB x = true) : (goVV vs m l).evs[(goVV vs m (l.take j)).evs.length]? = some (evV vs (goVV vs m (l.take j)) x) := by
 have e : l = l.take j ++ x :: l.drop (j + 1) := by
  obtain ⟨hj, hjx⟩ := List.getElem?_eq_some_iff.1 hx
  have h := List.drop_eq_getElem_cons hj
  rw [hjx] at h
  rw [← h]
  exact (List.take_append_drop j l).symm
 have h : goVV vs m l = goVV vs (stepV vs (goVV vs m (l.take j)) x) (l.drop (j + 1)) := by
  conv => lhs; rw [e]
  rw [goVV_app]
  rfl
 obtain ⟨t, ht⟩ := goVV_evs vs (l.drop (j + 1)) (stepV vs (goVV vs m (l.take j)) x)
 rw [h, ht, stepV_evs, if_pos he, List.append_assoc, List.getElem?_append_right (Nat.le_refl _), Nat.sub_self]
 rfl
end
section
open Go.RowKit
structure PrF (l : List ID) : Prop where
 pos : 0 < l.length
 le : l.length ≤ 64
 ok : ∀ (j : Nat) (x : ID), l[j]? = some x → okAt l.length j x = true
 last : lastK l = 4 ∨ lastK l = 6
theorem PrF.of {c : Int} {l : List ID} (h : (chkP c l).2 = 0) : PrF l := by
 obtain ⟨_, _, h1, h2, h3, h4, _⟩ := chk_ok h
 exact ⟨h1, h2, h3, h4⟩
structure BkN (l : List ID) (b f i : Nat) (x : ID) : Prop where
 at_ : (blkL l)[b]? = some ⟨(f : Int), (i : Int) + 1, nextOf (begB l) b i x⟩
 ins : l[i]? = some x
 le : f ≤ i
 raw : (blkT (begB l) l.length)[b]? = some ((f : Int), (i : Int) + 1)
 mid : ∀ j : Nat, f < j → j ≤ i → begB l j = false
theorem blk_nth {l : List ID} (h : PrF l) {b : Nat} (hb : b < (blkL l).length) : ∃ f i x, BkN l b f i x := by
 rw [blkL_len] at hb
 have I := blk_inv (begB_zero l) l.length h.pos
 obtain ⟨p, hp⟩ : ∃ p, (blkT (begB l) l.length)[b]? = some p := ⟨_, List.getElem?_eq_getElem hb⟩
 have hlt := I.lt b p hp
 obtain ⟨f, hf, _⟩ := I.beg b p hp
 have hmid := I.mid b p hp
 obtain ⟨pf, pt⟩ := p
 dsimp only at hlt hf hmid
 obtain ⟨i, rfl⟩ : ∃ i : Nat, pt = (i : Int) + 1 := ⟨(pt - 1).toNat, by omega⟩
 subst hf
 have hi : i < l.length := by omega
 have hx : l[i]? = some l[i] := List.getElem?_eq_getElem hi
 refine ⟨f, i, l[i], ?_, hx, by omega, hp, fun j h1 h2 => hmid j (by omega) (by omega)⟩
 have := blkL_at hp
 rwa [bkAt_eq hx] at this
theorem BkN.in_ {l : List ID} {b f i : Nat} {x : ID} (h : BkN l b f i x) : i < l.length := (List.getElem?_eq_some_iff.1 h.ins).1
theorem BkN.inner {l : List ID} {b f i : Nat} {x : ID} (h : BkN l b f i x) {j : Nat} {y : ID} (h1 : f ≤ j) (h2 : j < i) (hy : l[j]? = some y) : ¬ (y.kind = 3 ∨ y.kind = 4 ∨ y.kind = 6) := by
 intro hk
 have hb : begB l (j + 1) = true := begB_of hy (by
  unfold mark jmpB
  have : (((j + 1 : Nat) : Int) == (j : Int) + 1) = true := by simp
  rw [this]
  rcases hk with e | e | e <;> rw [e] <;> rfl)
 rw [h.mid (j + 1) (by omega) (by omega)] at hb
 cases hb
theorem beg_blk {l : List ID} (h : PrF l) {k : Nat} (hk : k < l.length) (hb : begB l k = true) : ∃ p, (blkL l)[ofT (begB l) k]? = some p ∧ p.frm = (k : Int) := by
 obtain ⟨f, t, h1, h2, h3, h4⟩ := of_in (begB_zero l) k l.length (by omega)
 exact ⟨_, blkL_at h1, h4 hb⟩
theorem next_blk {l : List ID} (h : PrF l) {b f i : Nat} {x : ID} (B : BkN l b f i x) (hk : ¬ (x.kind = 4 ∨ x.kind = 6)) : ∃ p, (blkL l)[b + 1]? = some p ∧ p.frm = (i : Int) + 1 := by
 have I := blk_inv (begB_zero l) l.length h.pos
 have hl := B.in_
 rcases Nat.lt_or_ge (b + 1) (blkT (begB l) l.length).length with q | q
 ·obtain ⟨p, hp⟩ : ∃ p, (blkT (begB l) l.length)[b + 1]? = some p := ⟨_, List.getElem?_eq_getElem q⟩
  refine ⟨_, blkL_at hp, ?_⟩
  have := I.nxt b _ p B.raw hp
  exact this.symm
 ·exfalso
  have hbl := (List.getElem?_eq_some_iff.1 B.raw).1
  have hb : b = (blkT (begB l) l.length).length - 1 := by omega
  have hlst := I.lst _ (by rw [← hb]; exact B.raw)
  dsimp only at hlst
  have hi : i = l.length - 1 := by omega
  have hk2 : lastK l = x.kind := by
   unfold lastK
   rw [← hi, B.ins]
   rfl
  have := h.last
  rw [hk2] at this
  exact hk this
theorem ask_eq (cc : Int) {a b : Int} (ha : U64 a) (hb : U64 b) : askVV cc a b = flagV (holdsU cc 64 a b) := by
 unfold askVV
 split
 ·rename_i h
  subst h
  congr 1
  have hc : holdsU 10 64 a b = (bits .and .u64 a b != 0) := by
   unfold holdsU
   rw [if_pos rfl, cut64, cut64]
  have hd : doU 5 64 a b = bits .and .u64 a b := by
   unfold doU
   rw [cut64, cut64, cut64]
   rfl
  rw [hc, hd]
  generalize bits .and .u64 a b = z
  have hx : holdsU 1 64 z 0 = (ordV z 0 != 0) := by
   unfold holdsU
   rw [if_neg (by decide : ¬ (1 : Int) = 10)]
   dsimp only
   rw [if_neg (by decide : ¬ (6 : Int) ≤ 1), if_neg (by decide : ¬ (1 : Int) = 0), if_pos rfl, cut64, cut64]
  rw [hx]
  unfold ordV
  by_cases hz : z = 0
  ·rw [hz]
   rfl
  ·rcases Int.lt_or_gt_of_ne hz with q | q
   ·rw [if_pos q]
    simp [hz]
   ·rw [if_neg (by omega), if_pos q]
    simp [hz]
 ·rfl
theorem reg_u64 {r : List Int} (h : RegOk r) (i : Int) : U64 (regV r i) := by
 unfold regV
 rw [List.getD_eq_getElem?_getD]
 cases hq : r[i.toNat]? with
 | none => show U64 0; unfold U64; omega
 | some v => exact h.2 v (List.mem_of_getElem? hq)
theorem tgt_of {l : List ID} (h : PrF l) {i : Nat} {x : ID} (hx : l[i]? = some x) (hk : x.kind = 3 ∨ x.kind = 4) : tgtB i x = true ∧ 0 ≤ tgtN i x ∧ tgtN i x < l.length := by
 have hi : i < l.length := (List.getElem?_eq_some_iff.1 hx).1
 have hn := h.le
 have ho := h.ok i x hx
 have hm := may_facts (x := x) (by unfold okAt at ho; simp only [Bool.and_eq_true] at ho; exact ho.1)
 have ht : tgtB i x = true := by
  unfold tgtB
  simp only [Bool.and_eq_true, Bool.or_eq_true, beq_iff_eq]
  rw [inB_iff, inB_iff]
  have := hm.off
  omega
 exact ⟨ht, tgt_in ho ht⟩
theorem exit_to {l : List ID} (h : PrF l) {b f i : Nat} {x : ID} (B : BkN l b f i x) {q : VM} {r : List Int} {i' : Int} {r' : List Int} {tr : List TrE} (hq : q.regs = r) (ho : RegOk r) (S : MStep x i r i' r' tr) :
  (endsV q x (nextOf (begB l) b i x)).kind ≠ 0 ∧ ∃ k : Nat, (if (endsV q x (nextOf (begB l) b i x)).kind = 2 ∧ (endsV q x (nextOf (begB l) b i x)).v = 0 then (endsV q x (nextOf (begB l) b i x)).els else (endsV q x (nextOf (begB l) b i x)).tgt) = (k : Int) ∧ ∃ p, (blkL l)[k]? = some p ∧ p.frm = i' := by
 have jump : x.kind = 3 ∨ x.kind = 4 → ∃ p, (blkL l)[ofT (begB l) (tgtN i x).toNat]? = some p ∧ p.frm = tgtN i x := fun hk => by
  obtain ⟨t1, t2, t3⟩ := tgt_of h B.ins hk
  have hb : begB l (tgtN i x).toNat = true := begB_of B.ins (by
   unfold mark
   rw [t1, show (((tgtN i x).toNat : Nat) : Int) = tgtN i x by omega]
   simp)
  obtain ⟨p, h1, h2⟩ := beg_blk h (k := (tgtN i x).toNat) (by omega) hb
  exact ⟨p, h1, by rw [h2]; omega⟩
 have flat : ¬ (x.kind = 3 ∨ x.kind = 4 ∨ x.kind = 6) → i' = (i : Int) + 1 → (endsV q x (nextOf (begB l) b i x)).kind ≠ 0 ∧ ∃ k : Nat, (if (endsV q x (nextOf (begB l) b i x)).kind = 2 ∧ (endsV q x (nextOf (begB l) b i x)).v = 0 then (endsV q x (nextOf (begB l) b i x)).els else (endsV q x (nextOf (begB l) b i x)).tgt) = (k : Int) ∧ ∃ p, (blkL l)[k]? = some p ∧ p.frm = i' := fun hk e => by
  have ht : tgtB i x = false := by
   unfold tgtB
   have : (x.kind == 3 || x.kind == 4) = false := by simp; omega
   rw [this]
   rfl
  have hn : nextOf (begB l) b i x = [(b : Int) + 1] := by
   unfold nextOf
   rw [ht, if_neg (by simp), if_neg (by omega)]
   rfl
  rw [hn]
  unfold endsV
  rw [if_neg (by omega), if_neg (by omega)]
  refine ⟨by show (1 : Int) ≠ 0; decide, b + 1, ?_, ?_⟩
  ·rw [if_neg (by rintro ⟨e1, _⟩; exact absurd e1 (by show ¬ (1 : Int) = 2; decide))]
   rfl
  ·obtain ⟨p, h1, h2⟩ := next_blk h B (by omega)
   exact ⟨p, h1, by rw [h2, e]⟩
 rcases S with ⟨k, e, _⟩ | ⟨k, e, _⟩ | ⟨k, e, _⟩ | ⟨k, e, _⟩ | ⟨k, e, _⟩ | ⟨k, e, _⟩
 ·exact flat (by omega) e
 ·exact flat (by omega) e
 ·exact flat (by omega) e
 ·obtain ⟨t1, _, _⟩ := tgt_of h B.ins (.inl k)
  have hn : nextOf (begB l) b i x = [(ofT (begB l) (tgtN i x).toNat : Int), (b : Int) + 1] := by
   unfold nextOf
   rw [if_pos t1, if_neg (by omega)]
   rfl
  obtain ⟨p1, hp1, hf1⟩ := jump (.inl k)
  obtain ⟨p2, hp2, hf2⟩ := next_blk h B (by omega)
  have hsec : secV q x = secM r x := by
   unfold secV secM VM.reg regV
   rw [hq]
   by_cases hb : x.byReg = true
   ·rw [if_pos hb, if_pos hb]
   ·rw [if_neg hb, if_neg hb, if_neg (by omega)]
  have hreg : q.reg x.dst = regV r x.dst := by unfold VM.reg regV; rw [hq]
  have hsu : U64 (secM r x) := by
   unfold secM
   split
   ·exact reg_u64 ho _
   ·exact wrap_u64 _
  rw [hn]
  unfold endsV
  rw [if_neg (by omega)]
  by_cases hne : ((ofT (begB l) (tgtN i x).toNat : Nat) : Int) ≠ (b : Int) + 1
  ·rw [if_pos ⟨k, hne⟩, hsec, hreg, ask_eq _ (reg_u64 ho _) hsu]
   refine ⟨by show (2 : Int) ≠ 0; decide, ?_⟩
   dsimp only
   rw [e]
   cases hh : holdsU x.op 64 (regV r x.dst) (secM r x)
   ·refine ⟨b + 1, ?_, p2, hp2, ?_⟩
    ·rw [if_pos ⟨rfl, rfl⟩]; rfl
    ·rw [if_neg (by simp)]; exact hf2
   ·refine ⟨ofT (begB l) (tgtN i x).toNat, ?_, p1, hp1, ?_⟩
    ·rw [if_neg (by rintro ⟨_, q⟩; exact absurd q (by decide))]; rfl
    ·rw [if_pos rfl]; exact hf1
  ·rw [if_neg (fun q => hne q.2)]
   have hne' : ((ofT (begB l) (tgtN i x).toNat : Nat) : Int) = (b : Int) + 1 := by omega
   refine ⟨by show (1 : Int) ≠ 0; decide, b + 1, ?_, p2, hp2, ?_⟩
   ·rw [if_neg (by rintro ⟨e1, _⟩; exact absurd e1 (by show ¬ (1 : Int) = 2; decide))]
    exact hne'
   ·have hbb : ofT (begB l) (tgtN i x).toNat = b + 1 := by omega
    rw [hbb, hp2] at hp1
    obtain rfl := Option.some.inj hp1
    rw [e]
    split
    ·exact hf1
    ·exact hf2
 ·obtain ⟨t1, _, _⟩ := tgt_of h B.ins (.inr k)
  have hn : nextOf (begB l) b i x = [(ofT (begB l) (tgtN i x).toNat : Int)] := by
   unfold nextOf
   rw [if_pos t1, if_pos (.inl k)]
   rfl
  obtain ⟨p1, hp1, hf1⟩ := jump (.inr k)
  rw [hn]
  unfold endsV
  rw [if_neg (by omega), if_neg (by omega)]
  refine ⟨by show (1 : Int) ≠ 0; decide, ofT (begB l) (tgtN i x).toNat, ?_, p1, hp1, by rw [hf1, e]⟩
  rw [if_neg (by rintro ⟨e1, _⟩; exact absurd e1 (by show ¬ (1 : Int) = 2; decide))]
  rfl
 ·exact flat (by omega) e
end
section
open Go.RowKit
def mdC (c : Int) (pl m : Value) (rs : List Int) (st : Int) (fr : List Int) (pc : Int) (an tr : Value) : List Value := .int .i64 c :: pl :: m :: (rs.map (Value.int .u64) ++ .int .i64 st :: (u8C fr ++ [.int .i64 pc, an, tr]))
section
variable {c : Int} {pl m : Value} {rs : List Int} {st : Int} {fr : List Int} {pc : Int} {an tr : Value}
theorem mdC_reg (hl : rs.length = 11) {k : Nat} (hk : k ≤ 10) : (mdC c pl m rs st fr pc an tr)[3 + k]? = some (.int .u64 (rs.getD k 0)) := by
 unfold mdC
 rw [Nat.add_comm 3 k]
 show (rs.map (Value.int .u64) ++ _)[k]? = _
 rw [List.getElem?_append_left (by rw [List.length_map]; omega), List.getElem?_map, List.getD_eq_getElem?_getD, List.getElem?_eq_getElem (by omega)]
 rfl
theorem mdC_past (hl : rs.length = 11) (k : Nat) : (mdC c pl m rs st fr pc an tr)[14 + k]? = (.int .i64 st :: (u8C fr ++ [.int .i64 pc, an, tr]))[k]? := by
 unfold mdC
 rw [show 14 + k = (11 + k) + 1 + 1 + 1 by omega, List.getElem?_cons_succ, List.getElem?_cons_succ, List.getElem?_cons_succ]
 rw [List.getElem?_append_right (by rw [List.length_map]; omega), List.length_map, hl, Nat.add_sub_cancel_left]
theorem mdC_set (hl : rs.length = 11) : (mdC c pl m rs st fr pc an tr)[14]? = some (.int .i64 st) := mdC_past hl 0
theorem mdC_tail (hl : rs.length = 11) (hf : fr.length = 64) (k : Nat) : (mdC c pl m rs st fr pc an tr)[79 + k]? = [Value.int .i64 pc, an, tr][k]? := by
 have h := mdC_past (c := c) (pl := pl) (m := m) (st := st) (fr := fr) (pc := pc) (an := an) (tr := tr) hl (65 + k)
 rw [show 14 + (65 + k) = 79 + k by omega] at h
 rw [h, show 65 + k = (64 + k) + 1 by omega, List.getElem?_cons_succ, List.getElem?_append_right (by unfold u8C; rw [List.length_map]; omega)]
 unfold u8C
 rw [List.length_map, hf, Nat.add_sub_cancel_left]
theorem mdC_pc (hl : rs.length = 11) (hf : fr.length = 64) : (mdC c pl m rs st fr pc an tr)[79]? = some (.int .i64 pc) := mdC_tail hl hf 0
theorem mdC_an (hl : rs.length = 11) (hf : fr.length = 64) : (mdC c pl m rs st fr pc an tr)[80]? = some an := mdC_tail hl hf 1
theorem mdC_tr (hl : rs.length = 11) (hf : fr.length = 64) : (mdC c pl m rs st fr pc an tr)[81]? = some tr := mdC_tail hl hf 2
theorem mdC_reg_set (hl : rs.length = 11) {k : Nat} (hk : k ≤ 10) (v : Int) : (mdC c pl m rs st fr pc an tr).set (3 + k) (.int .u64 v) = mdC c pl m (rs.set k v) st fr pc an tr := by
 unfold mdC
 rw [Nat.add_comm 3 k]
 show _ :: _ :: _ :: List.set _ k _ = _
 rw [List.set_append_left _ _ (by rw [List.length_map]; omega), List.map_set]
theorem mdC_set_set (hl : rs.length = 11) (v : Int) : (mdC c pl m rs st fr pc an tr).set 14 (.int .i64 v) = mdC c pl m rs v fr pc an tr := by
 unfold mdC
 show _ :: _ :: _ :: List.set _ 11 _ = _
 rw [List.set_append_right _ _ (by rw [List.length_map]; omega), List.length_map, hl]
 rfl
theorem mdC_tail_set (hl : rs.length = 11) (hf : fr.length = 64) (k : Nat) (hk : k ≤ 2) (v : Value) : (mdC c pl m rs st fr pc an tr).set (79 + k) v = .int .i64 c :: pl :: m :: (rs.map (Value.int .u64) ++ .int .i64 st :: (u8C fr ++ ([.int .i64 pc, an, tr] : List Value).set k v)) := by
 unfold mdC
 rw [show 79 + k = (76 + k) + 1 + 1 + 1 by omega, List.set_cons_succ, List.set_cons_succ, List.set_cons_succ, List.set_append_right _ _ (by rw [List.length_map]; omega), List.length_map, hl, show 76 + k - 11 = (64 + k) + 1 by omega, List.set_cons_succ, List.set_append_right _ _ (by unfold u8C; rw [List.length_map]; omega)]
 unfold u8C
 rw [List.length_map, hf, Nat.add_sub_cancel_left]
theorem mdC_pc_set (hl : rs.length = 11) (hf : fr.length = 64) (v : Int) : (mdC c pl m rs st fr pc an tr).set 79 (.int .i64 v) = mdC c pl m rs st fr v an tr := mdC_tail_set hl hf 0 (by omega) _
theorem mdC_an_set (hl : rs.length = 11) (hf : fr.length = 64) (v : Value) : (mdC c pl m rs st fr pc an tr).set 80 v = mdC c pl m rs st fr pc v tr := mdC_tail_set hl hf 1 (by omega) _
theorem mdC_tr_set (hl : rs.length = 11) (hf : fr.length = 64) (v : Value) : (mdC c pl m rs st fr pc an tr).set 81 v = mdC c pl m rs st fr pc an v := mdC_tail_set hl hf 2 (by omega) _
end
structure MdB (w : World) (bm : Nat) (c : Int) (pl m : Value) (rs : List Int) (st : Int) (fr : List Int) (pc : Int) (an tr : Value) : Prop where
 blk : Blk w bm 88 (mdC c pl m rs st fr pc an tr).toArray
 len : rs.length = 11
 frl : fr.length = 64
section
variable {w : World} {bm : Nat} {c : Int} {pl m : Value} {rs : List Int} {st : Int} {fr : List Int} {pc : Int} {an tr : Value}
theorem MdB.cell (h : MdB w bm c pl m rs st fr pc an tr) {i : Nat} {v : Value} (hv : (mdC c pl m rs st fr pc an tr)[i]? = some v) : w.cell? ⟨bm, i, none⟩ = some v := by
 rw [h.blk.cell i, List.getElem?_toArray, hv]
theorem MdB.put_reg (h : MdB w bm c pl m rs st fr pc an tr) {k : Nat} (hk : k ≤ 10) (v : Int) : MdB (w.setCell ⟨bm, 3 + k, none⟩ (.int .u64 v)) bm c pl m (rs.set k v) st fr pc an tr := by
 refine ⟨?_, by rw [List.length_set]; exact h.len, h.frl⟩
 have := h.blk.set_ (3 + k) (.int .u64 v)
 rwa [List.setIfInBounds_toArray, mdC_reg_set h.len hk] at this
theorem MdB.put_set (h : MdB w bm c pl m rs st fr pc an tr) (v : Int) : MdB (w.setCell ⟨bm, 14, none⟩ (.int .i64 v)) bm c pl m rs v fr pc an tr := by
 refine ⟨?_, h.len, h.frl⟩
 have := h.blk.set_ 14 (.int .i64 v)
 rwa [List.setIfInBounds_toArray, mdC_set_set h.len] at this
theorem MdB.put_pc (h : MdB w bm c pl m rs st fr pc an tr) (v : Int) : MdB (w.setCell ⟨bm, 79, none⟩ (.int .i64 v)) bm c pl m rs st fr v an tr := by
 refine ⟨?_, h.len, h.frl⟩
 have := h.blk.set_ 79 (.int .i64 v)
 rwa [List.setIfInBounds_toArray, mdC_pc_set h.len h.frl] at this
theorem MdB.put_an (h : MdB w bm c pl m rs st fr pc an tr) (v : Value) : MdB (w.setCell ⟨bm, 80, none⟩ v) bm c pl m rs st fr pc v tr := by
 refine ⟨?_, h.len, h.frl⟩
 have := h.blk.set_ 80 v
 rwa [List.setIfInBounds_toArray, mdC_an_set h.len h.frl] at this
theorem MdB.put_tr (h : MdB w bm c pl m rs st fr pc an tr) (v : Value) : MdB (w.setCell ⟨bm, 81, none⟩ v) bm c pl m rs st fr pc an v := by
 refine ⟨?_, h.len, h.frl⟩
 have := h.blk.set_ 81 v
 rwa [List.setIfInBounds_toArray, mdC_tr_set h.len h.frl] at this
def SetP (w : World) (bm : Nat) (c : Int) (pl m : Value) (rs : List Int) (fr : List Int) (pc : Int) (an tr : Value) (e : Ending) (w' : World) : Prop := e = .returned (.tuple #[]) ∧ ∃ st, MdB w' bm c pl m rs st fr pc an tr ∧ Chg (· = bm) w w'
theorem md_put (h : MdB w bm c pl m rs st fr pc an tr) {k : Nat} (hk : k ≤ 10) (v : Int) : Calls prog 61 #[.pointer (some ⟨bm, 0, none⟩), .int .i8 (k : Int), .int .u64 v] w (SetP w bm c pl m (rs.set k v) fr pc an tr) := by
 have H := Hd h
 have ck : w.cell? ⟨bm, 3 + k, none⟩ = some (.int .u64 (rs.getD k 0)) := h.cell (mdC_reg h.len hk)
 have fk : w.frozen? ⟨bm, 3 + k, none⟩ = false := h.blk.frozen _
 have h1 := h.put_reg hk v
 have c14 : (w.setCell ⟨bm, 3 + k, none⟩ (.int .u64 v)).cell? ⟨bm, 14, none⟩ = some (.int .i64 st) := h1.cell (mdC_set h1.len)
 have f14 : (w.setCell ⟨bm, 3 + k, none⟩ (.int .u64 v)).frozen? ⟨bm, 14, none⟩ = false := h1.blk.frozen _
 have H1 := Hd h1
 clear h h1
 go_enter func61, ntmps61
 go_upto_region 1 with fail
 have hw1 : Chg (· = bm) w (w.setCell ⟨bm, 3 + k, none⟩ (.int .u64 v)) := chg_setCell (b := bm) rfl _ rfl
 have HC := Hd hw1
 clear hw1 ck fk
 generalize w.setCell ⟨bm, 3 + k, none⟩ (.int .u64 v) = w1 at H1 HC c14 f14 ⊢
 go_wp2_with fail
 go_region_with fail
 all_goals
  go_wp2_with fail
  go_end0
  exact ⟨rfl, _, ⟨(H1.out.put_set _).blk, H1.out.len, H1.out.frl⟩, by
   have q := HC.out.trans (chg_setCell (w := w1) (c := ⟨bm, 14, none⟩) (b := bm) rfl (.int .i64 (bits .or .i64 st (IntKind.i64.wrap (2 ^ k)))) (G := (· = bm)) rfl) (fun _ q => .inl q)
   exact ⟨q.1, q.2, q.3, q.4, q.5⟩⟩
theorem md_second (h : MdB w bm c pl m rs st fr pc an tr) (x : ID) (M : MayF x) : Calls prog 60 #[.pointer (some ⟨bm, 0, none⟩), .agg x.cells.toArray] w fun e w' => e = .returned (.int .u64 (secM rs x)) ∧ Below w.heap.size w w' := by
 obtain ⟨k, op, wd, sz, br, d, s, off, imm⟩ := x
 have hs : 0 ≤ s ∧ s ≤ 10 := M.src
 clear M
 obtain ⟨sn, rfl⟩ : ∃ q : Nat, s = (q : Int) := ⟨s.toNat, by omega⟩
 have hsn : sn ≤ 10 := by omega
 clear hs
 show Calls prog 60 #[.pointer (some ⟨bm, 0, none⟩), .agg #[.int .i8 k, .int .i8 op, .int .i8 wd, .int .i8 sz, .bool br, .int .i8 d, .int .i8 (sn : Int), .int .i64 off, .int .i64 imm]] w _
 obtain ⟨w1, hw1⟩ : ∃ z, w.alloc (.cells #[.int .i8 k, .int .i8 op, .int .i8 wd, .int .i8 sz, .bool br, .int .i8 d, .int .i8 (sn : Int), .int .i64 off, .int .i64 imm] 47) = z := ⟨_, rfl⟩
 have hx : Blk w1 w.heap.size 47 #[.int .i8 k, .int .i8 op, .int .i8 wd, .int .i8 sz, .bool br, .int .i8 d, .int .i8 (sn : Int), .int .i64 off, .int .i64 imm] := by rw [← hw1]; exact Blk.new w _ _
 have hb0 : Below w.heap.size w w1 := by rw [← hw1]; exact (Below.refl _ w).alloc (Nat.le_refl _) _
 have HB := Hd hb0
 have c4 : w1.cell? ⟨w.heap.size, 4, none⟩ = some (.bool br) := hx.cell 4
 have c6 : w1.cell? ⟨w.heap.size, 6, none⟩ = some (.int .i8 (sn : Int)) := hx.cell 6
 have c8 : w1.cell? ⟨w.heap.size, 8, none⟩ = some (.int .i64 imm) := hx.cell 8
 have ck : w1.cell? ⟨bm, 3 + sn, none⟩ = some (.int .u64 (rs.getD sn 0)) := (hb0.cell (p := ⟨bm, 3 + sn, none⟩) h.blk.lt).trans (h.cell (mdC_reg h.len hsn))
 obtain ⟨rv, hrv⟩ : ∃ q, rs.getD sn 0 = q := ⟨_, rfl⟩
 have HRV := Hd hrv
 rw [hrv] at ck
 clear hx hb0 h hrv
 cases br
 ·have HE := Hd (show secM rs ⟨k, op, wd, sz, false, d, (sn : Int), off, imm⟩ = IntKind.u64.wrap imm by unfold secM; rfl)
  go_enter func60, ntmps60
  go_wp2_with fail
  go_ret
  exact ⟨by rw [HE.out]; rfl, HB.out⟩
 ·have HE := Hd (show secM rs ⟨k, op, wd, sz, true, d, (sn : Int), off, imm⟩ = rv by rw [← HRV.out]; unfold secM regV; simp)
  go_enter func60, ntmps60
  go_upto_region 2 with fail
  clear hw1
  go_region_with fail
  all_goals
   go_wp2_with fail
   go_ret
   exact ⟨by rw [HE.out]; rfl, HB.out.os, HB.out.tape, HB.out.output, HB.out.size, HB.out.block⟩
end
end
section
open Go.RowKit
def trC (p : TrE × Value) : List Value := [.int .i64 p.1.num, p.2, .int .u64 p.1.ans]
def WdsF (w : World) (F : Nat → Prop) (s : Value) (l : List Int) : Prop := ∃ A c, s = .slice A l.length c ∧ l.length ≤ c ∧ ReadsF w F 1 A l.length (l.map (Value.int .u64)) ∧ l.length ≤ 5
def TrAt (w : World) (F : Nat → Prop) (s : Value) (T : List TrE) : Prop := ∃ A c, ∃ q : List (TrE × Value), s = .slice A T.length c ∧ T.length ≤ c ∧ q.map (·.1) = T ∧ ReadsF w F 3 A T.length (q.flatMap trC) ∧ ∀ p ∈ q, WdsF w F p.2 p.1.args
section
variable {w w' : World} {F G H : Nat → Prop} {s : Value} {l : List Int} {T : List TrE}
theorem WdsF.chg (h : WdsF w F s l) (hc : Chg H w w') (hH : ∀ b, H b → F b ∨ w.heap.size ≤ b) (hG : ∀ b, G b → F b ∨ w.heap.size ≤ b) : WdsF w' G s l := by
 obtain ⟨A, c, h1, h2, h3, h4⟩ := h
 exact ⟨A, c, h1, h2, h3.chg hc hH hG, h4⟩
theorem TrAt.chg (h : TrAt w F s T) (hc : Chg H w w') (hH : ∀ b, H b → F b ∨ w.heap.size ≤ b) (hG : ∀ b, G b → F b ∨ w.heap.size ≤ b) : TrAt w' G s T := by
 obtain ⟨A, c, q, h1, h2, h3, h4, h5⟩ := h
 exact ⟨A, c, q, h1, h2, h3, h4.chg hc hH hG, fun p hp => (h5 p hp).chg hc hH hG⟩
theorem TrAt.at_ {m c k : Nat} {A : Option Addr} (h : TrAt w F (.slice A m c) T) (hk : k < m) : ∃ ad x v, A = some ad ∧ ad.block < w.heap.size ∧ T[k]? = some x ∧ WdsF w F v x.args ∧ ∀ j u, (trC (x, v))[j]? = some u → w.cell? ((ad.add (k * 3)).add j) = some u := by
 obtain ⟨A', c', q, h1, h2, rfl, h4, h5⟩ := h
 injection h1 with h0 h1 hc
 subst h0 h1 hc
 obtain ⟨ad, e, hb, _, hc⟩ := h4.2 (by omega)
 have hkq : k < q.length := by simpa using hk
 have hx : q[k]? = some q[k] := List.getElem?_eq_getElem hkq
 refine ⟨ad, q[k].1, q[k].2, e, hb, by rw [List.getElem?_map, hx]; rfl, h5 _ (List.getElem_mem hkq), fun j u hu => ?_⟩
 rw [add_of_add]
 exact hc _ u (flat_at trC 3 q (fun z hz => rfl) k j _ u hx hu)
end
structure MdR (base bm bq : Nat) (X G F : Nat → Prop) (an tr : Value) (la : List Int) (T : List TrE) (w : World) : Prop where
 mem : MemAt w base F bq
 sub : ∀ b, F b → G b ∧ b ≠ bm
 row : ∃ q : List (TrE × Value), w.ownsRow base 95 3 tr T.length (q.flatMap trC) ∧ q.map (·.1) = T ∧ ∀ p ∈ q, WdsF w (fun b => b = bm ∨ F b ∨ tr.ownBlock = some b ∨ X b) p.2 p.1.args
 tro : ∀ b, tr.ownBlock = some b → G b ∧ b ≠ bm ∧ ¬ F b
 ans : ∃ AA ca, an = .slice AA la.length ca ∧ la.length ≤ ca ∧ Reads w base 1 AA la.length (la.map (Value.int .u64))
 own : G bm
 low : ∀ b, G b → base ≤ b ∧ b < w.heap.size
 u64 : ∀ v ∈ la, U64 v
 xs : ∀ b, X b → base ≤ b ∧ b < w.heap.size ∧ ¬ G b
section
variable {base bm bq : Nat} {X G F : Nat → Prop} {an tr : Value} {la : List Int} {T : List TrE} {w w' : World}
theorem MdR.lt (h : MdR base bm bq X G F an tr la T w) : bm < w.heap.size := (h.low bm h.own).2
theorem MdR.ge (h : MdR base bm bq X G F an tr la T w) : base ≤ bm := (h.low bm h.own).1
theorem MdR.chg {H : Nat → Prop} (h : MdR base bm bq X G F an tr la T w) (hc : Chg H w w') (hm : ∀ b, H b → b = bm ∨ w.heap.size ≤ b) : MdR base bm bq X G F an tr la T w' := by
 obtain ⟨q, h1, h2, h3⟩ := h.row
 obtain ⟨AA, ca, e, hca, hr⟩ := h.ans
 have hF : ∀ b, F b → ¬ H b := fun b q r => (hm b r).elim (h.sub b q).2 (fun z => by have := (h.mem.fb b q).2; omega)
 refine ⟨h.mem.chg hc hF, h.sub, ⟨q, hc.own h1 (fun k e r => ?_), h2, fun p hp => (h3 p hp).chg hc (fun b r => (hm b r).elim (fun z => .inl (.inl z)) .inr) (fun b r => .inl r)⟩, h.tro, ⟨AA, ca, e, hca, ?_⟩, h.own, fun b q => ⟨(h.low b q).1, Nat.lt_of_lt_of_le (h.low b q).2 hc.size⟩, h.u64, fun b q => ⟨(h.xs b q).1, Nat.lt_of_lt_of_le (h.xs b q).2.1 hc.size, (h.xs b q).2.2⟩⟩
 ·exact (hm k r).elim (h.tro k e).2.1 (fun z => by have := (h.low k (h.tro k e).1).2; omega)
 ·exact hr.below (hc.below (fun b r => (hm b r).elim (fun z => z ▸ h.ge) (fun z => Nat.le_trans h.ge (Nat.le_trans (Nat.le_of_lt h.lt) z))) (Nat.le_trans h.ge (Nat.le_of_lt h.lt)))
end
section
variable {base bm bq : Nat} {X X' G F : Nat → Prop} {an tr : Value} {la : List Int} {T : List TrE} {w w' : World}
theorem MdR.chgX {H : Nat → Prop} (h : MdR base bm bq X G F an tr la T w) (hc : Chg H w w') (hm : ∀ b, H b → X b) (hX : ∀ b, X' b → X b ∨ w.heap.size ≤ b) (hX2 : ∀ b, X' b → b < w'.heap.size) : MdR base bm bq X' G F an tr la T w' := by
 obtain ⟨q, h1, h2, h3⟩ := h.row
 obtain ⟨AA, ca, e, hca, hr⟩ := h.ans
 have hlow : base ≤ w.heap.size := Nat.le_trans h.ge (Nat.le_of_lt h.lt)
 refine ⟨h.mem.chg hc (fun b q r => (h.xs b (hm b r)).2.2 (h.sub b q).1), h.sub, ⟨q, hc.own h1 (fun k e r => (h.xs k (hm k r)).2.2 (h.tro k e).1), h2, fun p hp => (h3 p hp).chg hc (fun b r => .inl (.inr (.inr (.inr (hm b r))))) (fun b r => ?_)⟩, h.tro, ⟨AA, ca, e, hca, hr.below (hc.below (fun b r => (h.xs b (hm b r)).1) hlow)⟩, h.own, fun b q => ⟨(h.low b q).1, Nat.lt_of_lt_of_le (h.low b q).2 hc.size⟩, h.u64, fun b q => ⟨?_, hX2 b q, fun g => ?_⟩⟩
 ·rcases r with r | r | r | r
  ·exact .inl (.inl r)
  ·exact .inl (.inr (.inl r))
  ·exact .inl (.inr (.inr (.inl r)))
  ·exact (hX b r).imp (fun z => .inr (.inr (.inr z))) id
 ·exact (hX b q).elim (fun z => (h.xs b z).1) (fun z => Nat.le_trans hlow z)
 ·exact (hX b q).elim (fun z => (h.xs b z).2.2 g) (fun z => by have := (h.low b g).2; omega)
end
structure MdM (base bm bq : Nat) (X G : Nat → Prop) (c : Int) (A : Option Addr) (n cap : Nat) (rs : List Int) (pc : Int) (la : List Int) (T : List TrE) (w : World) : Prop where
 box : ∃ st fr an tr F, MdB w bm c (.slice A n cap) (.pointer (some ⟨bq, 0, none⟩)) rs st fr pc an tr ∧ MdR base bm bq X G F an tr la T w
 reg : RegOk rs
structure MdG (base bm bq : Nat) (X G G' : Nat → Prop) (c : Int) (A : Option Addr) (n cap : Nat) (rs : List Int) (pc : Int) (la : List Int) (T : List TrE) (w w' : World) : Prop where
 at_ : MdM base bm bq X G' c A n cap rs pc la T w'
 chg : Chg G w w'
 new : ∀ b, G' b → G b ∨ w.heap.size ≤ b
section
variable {base bm bq : Nat} {X G G' G2 : Nat → Prop} {c : Int} {A : Option Addr} {n cap : Nat} {rs rs' : List Int} {pc pc' : Int} {la la' : List Int} {T T' : List TrE} {w w' w2 : World}
theorem MdG.trans (h : MdG base bm bq X G G' c A n cap rs pc la T w w') (k : MdG base bm bq X G' G2 c A n cap rs' pc' la' T' w' w2) : MdG base bm bq X G G2 c A n cap rs' pc' la' T' w w2 := ⟨k.at_, h.chg.trans k.chg h.new, fun b q => (k.new b q).elim (h.new b) (fun e => .inr (Nat.le_trans h.chg.size e))⟩
theorem MdM.chgX {X' H : Nat → Prop} (h : MdM base bm bq X G c A n cap rs pc la T w) (hc : Chg H w w') (hm : ∀ b, H b → X b) (hX : ∀ b, X' b → X b ∨ w.heap.size ≤ b) (hX2 : ∀ b, X' b → b < w'.heap.size) : MdM base bm bq X' G c A n cap rs pc la T w' := by
 obtain ⟨st, fr, an, tr, F, hB, hR⟩ := h.box
 exact ⟨⟨st, fr, an, tr, F, ⟨hc.blk hB.blk (fun z => (hR.xs bm (hm bm z)).2.2 hR.own), hB.len, hB.frl⟩, hR.chgX hc hm hX hX2⟩, h.reg⟩
theorem MdM.below (h : MdM base bm bq X G c A n cap rs pc la T w) (hb : Below w.heap.size w w') : MdG base bm bq X G G c A n cap rs pc la T w w' := by
 obtain ⟨st, fr, an, tr, F, hB, hR⟩ := h.box
 exact ⟨⟨⟨st, fr, an, tr, F, ⟨hB.blk.below hb hB.blk.lt, hB.len, hB.frl⟩, hR.chg (H := fun _ => False) (.of_below hb) (fun _ q => q.elim)⟩, h.reg⟩, .of_below hb, fun b q => .inl q⟩
end
end
end Go.Proofs.YtepagfkkjlbipaaGreat
