/-
  instr.Target, instr.Check: where instructions lead, which programs may be. Conditions: those written in each statement.
  Plain words on a program's blocks. Conditions: those written in each statement.
  Cells, numbers, blocks that a slice reads as, apart from what may yet change. Conditions: those written in each statement.
-/
import Derived.Test.YtepagfkkjlbipaaKap
import Derived.Test.YtepagfkkjlbipaaKag
import Derived.Test.YtepagfkkjlbipaaKad
section
namespace Go.Proofs.Ytepagfkkjlbipaa
open Go.RowKit
set_option linter.unusedVariables false
set_option linter.unusedSimpArgs false
def TgtP (i : Int) (x : ID) (w : World) (e : Ending) (w' : World) : Prop := e = .returned (.tuple #[.int .i64 (tgtN i x), .bool (tgtB i x)]) ∧ Below w.heap.size w w'
theorem tgt_no {i : Int} {x : ID} (h : tgtB i x = false) : tgtN i x = 0 := by unfold tgtN; rw [h]; rfl
set_option maxRecDepth 100000 in
set_option maxHeartbeats 2000000 in
theorem target_any (i : Int) (x : ID) (w : World) : Calls Try.prog 34 #[.int .i64 i, .agg x.cells.toArray] w (TgtP i x w) := by
  obtain ⟨k, op, wd, sz, br, dst, src, off, imm⟩ := x
  show Calls Try.prog 34 #[.int .i64 i, .agg #[.int .i8 k, .int .i8 op, .int .i8 wd, .int .i8 sz, .bool br, .int .i8 dst, .int .i8 src, .int .i64 off, .int .i64 imm]] w _
  by_cases h3 : k = 3 ∨ k = 4
  · cases h1 : inB i (-1099511627776) 1099511627776
    · have hT : tgtB i ⟨k, op, wd, sz, br, dst, src, off, imm⟩ = false := by unfold tgtB; rw [h1]; simp
      have HT := hide hT
      clear hT
      rcases h3 with rfl | rfl
      all_goals
        go_enter Try.func34, Try.ntmps34
        go_wp2_with fail
        refine (within64 _ _ _ _).mono ?_; rintro e w' ⟨rfl, rfl⟩; rw [h1]
        go_wp2
        go_ret2
        exact ⟨by rw [tgt_no HT.out, HT.out]; rfl, (Below.refl _ _).alloc (Nat.le_refl _) _⟩
    · cases h2 : inB off (-1099511627776) 1099511627776
      · have hT : tgtB i ⟨k, op, wd, sz, br, dst, src, off, imm⟩ = false := by unfold tgtB; rw [h1, h2]; simp
        have HT := hide hT
        clear hT
        rcases h3 with rfl | rfl
        all_goals
          go_enter Try.func34, Try.ntmps34
          go_wp2_with fail
          refine (within64 _ _ _ _).mono ?_; rintro e w' ⟨rfl, rfl⟩; rw [h1]
          go_wp2_with fail
          refine (within64 _ _ _ _).mono ?_; rintro e w' ⟨rfl, rfl⟩; rw [h2]
          go_wp2
          go_ret2
          exact ⟨by rw [tgt_no HT.out, HT.out]; rfl, (Below.refl _ _).alloc (Nat.le_refl _) _⟩
      · obtain ⟨i0, i1⟩ := inB_iff.1 h1
        obtain ⟨o0, o1⟩ := inB_iff.1 h2
        have hT : tgtB i ⟨k, op, wd, sz, br, dst, src, off, imm⟩ = true := by unfold tgtB; rw [h1, h2]; rcases h3 with rfl | rfl <;> simp
        have hN : tgtN i ⟨k, op, wd, sz, br, dst, src, off, imm⟩ = i + 1 + off := by unfold tgtN; rw [hT]; rfl
        have HT := hide hT
        have HN := hide hN
        clear hT hN
        rcases h3 with rfl | rfl
        all_goals
          go_enter Try.func34, Try.ntmps34
          go_wp2_with fail
          refine (within64 _ _ _ _).mono ?_; rintro e w' ⟨rfl, rfl⟩; rw [h1]
          go_wp2_with fail
          refine (within64 _ _ _ _).mono ?_; rintro e w' ⟨rfl, rfl⟩; rw [h2]
          go_wp2
          go_ret2
          exact ⟨by rw [HN.out, HT.out]; rfl, (Below.refl _ _).alloc (Nat.le_refl _) _⟩
  · have hT : tgtB i ⟨k, op, wd, sz, br, dst, src, off, imm⟩ = false := by unfold tgtB; simp only [Bool.and_eq_false_iff]; left; left; simp; omega
    have HT := hide hT
    have b3 : (k != 3) = true := by rw [bne_iff_ne]; omega
    have b4 : (k != 4) = true := by rw [bne_iff_ne]; omega
    clear hT h3
    go_enter Try.func34, Try.ntmps34
    go_wp2
    go_ret2
    exact ⟨by rw [tgt_no HT.out, HT.out]; rfl, (Below.refl _ _).alloc (Nat.le_refl _) _⟩
def CkRel (c : Int) (l : List ID) (W : World) (A : Option Addr) (n : Nat) (sl : Value) (i : Value) (wr : World) : Prop :=
  ∃ k : Nat, k ≤ n ∧ i = .int .i64 k ∧ (∀ j x, j < k → l[j]? = some x → okAt n j x = true) ∧ InsAt wr W.heap.size A n l ∧ wr.cell? ⟨W.heap.size, 1, none⟩ = some sl ∧ Below W.heap.size W wr ∧ W.heap.size < wr.heap.size
def ChkP (c : Int) (l : List ID) (w : World) (e : Ending) (w' : World) : Prop := e = .returned (.tuple #[.int .i64 (chkP c l).1, .int .i64 (chkP c l).2]) ∧ Below w.heap.size w w'
set_option maxRecDepth 100000 in
set_option maxHeartbeats 4000000 in
theorem check_any (c : Int) (A : Option Addr) (n cap : Nat) (l : List ID) (w : World) (hh : InsAt w w.heap.size A n l) (hc : n ≤ cap) (hm : n < 9223372036854775808) :
    Calls Try.prog 33 #[.agg #[.int .i64 c, .slice A n cap]] w (ChkP c l w) := by
  have hl := hide hh.1
  have HH := hide hh
  clear hh
  cases h1 : inB c 0 256
  · have HC := hide (chk_ctx (l := l) h1)
    go_enter Try.func33, Try.ntmps33
    go_wp2_with fail
    refine (within64 _ _ _ _).mono ?_; rintro e w' ⟨rfl, rfl⟩; rw [h1]
    go_wp2
    go_ret2
    exact ⟨by rw [HC.out]; rfl, (Below.refl _ _).alloc (Nat.le_refl _) _⟩
  · cases h2 : inB ((n : Int) - 1) 0 63
    · have HC := hide (chk_long (l := l) h1 (by rw [hl.out]; exact h2))
      go_enter Try.func33, Try.ntmps33
      go_wp2_with fail
      refine (within64 _ _ _ _).mono ?_; rintro e w' ⟨rfl, rfl⟩; rw [h1]
      go_wp2_with fail
      refine (within64 _ _ _ _).mono ?_; rintro e w' ⟨rfl, rfl⟩; rw [h2]
      go_wp2
      go_ret2
      exact ⟨by rw [HC.out]; rfl, (Below.refl _ _).alloc (Nat.le_refl _) _⟩
    · have hn := inB_iff.1 h2
      have hn1 : 1 ≤ n := by omega
      have hn2 : n ≤ 64 := by omega
      have h2' := hide (show inB ((l.length : Int) - 1) 0 63 = true by rw [hl.out]; exact h2)
      have h1' := hide h1
      clear hn
      obtain ⟨iI, hiI, hzI, hsI, _⟩ := info_parts infI
      have II := hide (And.intro hiI (And.intro hzI hsI))
      clear hiI hzI hsI
      go_enter Try.func33, Try.ntmps33
      go_wp2_with fail
      refine (within64 _ _ _ _).mono ?_; rintro e w' ⟨rfl, rfl⟩; rw [h1]
      go_wp2_with fail
      refine (within64 _ _ _ _).mono ?_; rintro e w' ⟨rfl, rfl⟩; rw [h2]
      clear h1 h2
      go_wp2
      go_loopw [26] (fun i wr => CkRel c l w A n (.slice A n cap) i wr) (fun i _ => n - (intOf i).toNat)
      case atStart => exact ⟨0, by omega, rfl, by omega, HH.out.alloc (Nat.le_refl _) _, by simp, (Below.refl _ _).alloc (Nat.le_refl _) _, by simp⟩
      case round =>
        obtain ⟨k, hk, rfl, hok, hat, hc0, hbel, hsz⟩ := hrel
        have HB := hide hbel
        have HOK := hide hok
        have HAT := hide hat
        clear hbel hok hat
        by_cases hlt : k < n
        · obtain ⟨ad, x, rfl, hab, hx, hxw, hcell⟩ := HAT.out.at_ hlt
          have HX := hide hx
          have HC := hide hcell
          have HW := hide hxw
          clear hx hcell hxw
          obtain ⟨mb, hmb⟩ : ∃ b, mayB x = b := ⟨_, rfl⟩
          obtain ⟨tb, htb⟩ : ∃ b, tgtB k x = b := ⟨_, rfl⟩
          obtain ⟨tn, htn⟩ : ∃ b, tgtN k x = b := ⟨_, rfl⟩
          have HMB := hide hmb
          have HTB := hide htb
          have HTN := hide htn
          clear hmb htb htn
          have hinq : ∃ b, inB tn 0 ((n : Int) - 1) = b := ⟨_, rfl⟩
          obtain ⟨ib, hib⟩ := hinq
          have HIB := hide hib
          clear hib
          have hcs : mb = false ∨ (mb = true ∧ tb = false) ∨ (mb = true ∧ tb = true ∧ ib = false) ∨ (mb = true ∧ tb = true ∧ ib = true) := by cases mb <;> cases tb <;> cases ib <;> simp
          rcases hcs with rfl | ⟨rfl, rfl⟩ | ⟨rfl, rfl, rfl⟩ | ⟨rfl, rfl, rfl⟩
          all_goals
            go_wp2_with (first
              | (refine wpList_load_at rfl 26 (.tmp 29) rfl (ad.add (k * 9)) rfl x.cells _ HC.out Try.underlying26 rfl sizI ?_)
              | (refine wpList_store_new rfl 26 (.tmp 6) (.tmp 30) rfl _ x.cells (.agg x.cells.toArray) (by rfl) (by rfl) rfl sizI (by rfl) x.one ?_
                 intro w1 X1 L1 S1
                 have hg1 : wr.heap.size < w1.heap.size := by omega
                 have hc1 : w1.cell? ⟨w.heap.size, 1, none⟩ = some (.slice (some ad) n cap) := (L1.cell (p := ⟨w.heap.size, 1, none⟩) hsz).trans hc0
                 have HAT1 := hide (HAT.out.below (L1.mono (Nat.le_of_lt hsz)))
                 have HB1 := hide (HB.out.trans (L1.mono (Nat.le_of_lt hsz)))
                 have HX1 := hide X1
                 clear X1 L1 S1)
              | (go_at_call 54
                 refine (may_any x _ HW.out).mono ?_
                 rintro e w2 ⟨rfl, hb⟩
                 rw [HMB.out]
                 have hsz1 : w.heap.size < w1.heap.size := Nat.lt_trans hsz hg1
                 have hc2 : w2.cell? ⟨w.heap.size, 1, none⟩ = some (.slice (some ad) n cap) := (hb.cell (p := ⟨w.heap.size, 1, none⟩) hsz1).trans hc1
                 have HAT2 := hide (HAT1.out.below (hb.mono (Nat.le_of_lt hsz1)))
                 have HB2 := hide (HB1.out.trans (hb.mono (Nat.le_of_lt hsz1)))
                 have HX2 := hide (HX1.out.below hb hg1)
                 have hsz2 : w.heap.size < w2.heap.size := Nat.lt_of_lt_of_le hsz1 hb.size
                 clear hb hc1 HAT1 HB1 HX1)
              | (refine wpList_load_at rfl 26 (.tmp 6) rfl ⟨wr.heap.size, 0, none⟩ rfl x.cells _ (by first | exact blk_list HX2.out | exact blk_list HX1.out) Try.underlying26 rfl sizI ?_)
              | (go_at_call 34
                 refine (target_any k x _).mono ?_
                 rintro e w3 ⟨rfl, hb⟩
                 rw [HTB.out, HTN.out]
                 have hc3 : w3.cell? ⟨w.heap.size, 1, none⟩ = some (.slice (some ad) n cap) := (hb.cell (p := ⟨w.heap.size, 1, none⟩) hsz2).trans hc2
                 have HAT3 := hide (HAT2.out.below (hb.mono (Nat.le_of_lt hsz2)))
                 have HB3 := hide (HB2.out.trans (hb.mono (Nat.le_of_lt hsz2)))
                 have hsz3 : w.heap.size < w3.heap.size := Nat.lt_of_lt_of_le hsz2 hb.size
                 clear hb hc2 HAT2 HB2 HX2)
              | (go_at_call 53
                 refine (within64 _ _ _ _).mono ?_
                 rintro e w' ⟨rfl, rfl⟩
                 rw [HIB.out]))
            first
              | (go_ret2
                 have hbad : okAt n k x = false := by unfold okAt; rw [HMB.out]; first | rfl | (rw [HTB.out, HTN.out, HIB.out]; rfl)
                 have hp := chk_bad (c := c) h1'.out h2'.out HX.out (by rw [hl.out]; exact HOK.out) (by rw [hl.out]; exact hbad)
                 rw [HMB.out] at hp
                 exact ⟨by rw [hp]; rfl, by first | exact HB2.out | exact HB3.out⟩)
              | (have hgood : okAt n k x = true := by unfold okAt; rw [HMB.out]; first | (rw [HTB.out]; rfl) | (rw [HTB.out, HTN.out, HIB.out]; rfl)
                 have HGD := hide hgood
                 clear hgood
                 go_roundw
                 case measure => simp [intOf]; omega
                 case rel =>
                   refine ⟨k + 1, by omega, by go_num, fun j y hj hy => ?_, HAT3.out, hc3, HB3.out, hsz3⟩
                   rcases Nat.lt_or_ge j k with h | h
                   · exact HOK.out j y h hy
                   · obtain rfl : j = k := by omega
                     have := HX.out
                     rw [hy] at this
                     obtain rfl := Option.some.inj this
                     exact HGD.out)
        · obtain rfl : k = n := by omega
          have hk1 : k - 1 < k := by omega
          obtain ⟨ad, x, rfl, hab, hx, hxw, hcell⟩ := HAT.out.at_ hk1
          have hlast : lastK l = x.kind := by unfold lastK; rw [hl.out, hx]; rfl
          have hp := chk_end (c := c) h1'.out h2'.out (fun i y hy => by rw [hl.out]; exact HOK.out i y (by have := (List.getElem?_eq_some_iff.1 hy).1; have := hl.out; omega) hy)
          rw [hlast, hl.out] at hp
          have HP := hide hp
          have hkc : wr.cell? (ad.add ((k - 1) * 9)) = some (.int .i8 x.kind) := by
            have := hcell 0 _ rfl
            simpa [add_of_add] using this
          clear hcell hlast hp hx hxw hlt
          generalize hki : x.kind = ki at hkc ⊢
          rw [hki] at HP
          clear hki
          cases h4 : (ki != 4)
          all_goals
            cases h6 : (ki != 6)
            all_goals
              go_wp2
              go_ret2
              refine ⟨?_, HB.out⟩
              rw [HP.out]
              simp at h4 h6
              first
                | (rw [if_pos ⟨h4, h6⟩]; rfl)
                | (rw [if_neg (by simp [h4, h6])]; rfl)
end Go.Proofs.Ytepagfkkjlbipaa
end
section
namespace Go.Proofs.Ytepagfkkjlbipaa
open Go.RowKit
set_option linter.unusedVariables false
set_option linter.unusedSimpArgs false
def jmpB (x : ID) : Bool := x.kind == 3 || (x.kind == 4 || x.kind == 6)
def mark (i : Nat) (x : ID) (v : Int) : Bool := (jmpB x && (v == (i : Int) + 1)) || (tgtB i x && (v == tgtN i x))
/-- Where blocks begin, as far as the first k instructions tell. -/
def begT (l : List ID) (k : Nat) (v : Int) : Bool := (v == 0) || (List.range k).any fun j => match l[j]? with
  | some x => mark j x v
  | none => false
theorem begT_succ {l : List ID} {k : Nat} {x : ID} (hx : l[k]? = some x) (v : Int) : begT l (k + 1) v = (begT l k v || mark k x v) := by
  unfold begT
  rw [List.range_succ, List.any_append, Bool.or_assoc]
  simp [hx]
def begB (l : List ID) (i : Nat) : Bool := begT l l.length i
theorem begB_zero (l : List ID) : begB l 0 = true := by unfold begB begT; simp
theorem begB_of {l : List ID} {i j : Nat} {x : ID} (hx : l[j]? = some x) (h : mark j x i = true) : begB l i = true := by
  unfold begB begT
  rw [Bool.or_eq_true]
  right
  rw [List.any_eq_true]
  exact ⟨j, List.mem_range.2 (List.getElem?_eq_some_iff.1 hx).1, by rw [hx]; exact h⟩
theorem begB_no {l : List ID} {i : Nat} (h0 : 0 < i) (h : ∀ j x, l[j]? = some x → mark j x i = false) : begB l i = false := by
  unfold begB begT
  rw [Bool.or_eq_false_iff]
  refine ⟨by simp; omega, ?_⟩
  rw [List.any_eq_false]
  intro j hj
  have hj' := List.mem_range.1 hj
  rw [List.getElem?_eq_getElem hj']
  simp [h j _ (List.getElem?_eq_getElem hj')]
/-- The last block's end. -/
def extT (q : List (Int × Int)) (t : Int) : List (Int × Int) := q.dropLast ++ [((q.getLast?.map (·.1)).getD 0, t)]
theorem extT_app (r : List (Int × Int)) (f s t : Int) : extT (r ++ [(f, s)]) t = r ++ [(f, t)] := by unfold extT; simp
/-- The blocks of the first k instructions. -/
def blkT (B : Nat → Bool) : Nat → List (Int × Int)
  | 0 => []
  | k + 1 => extT (if B k then blkT B k ++ [((k : Int), 0)] else blkT B k) ((k : Int) + 1)
def preBk (B : Nat → Bool) (k : Nat) : List (Int × Int) := if B k then blkT B k ++ [((k : Int), 0)] else blkT B k
theorem blkT_succ (B : Nat → Bool) (k : Nat) : blkT B (k + 1) = extT (preBk B k) ((k : Int) + 1) := by rw [blkT]; rfl
theorem blkT_yes {B : Nat → Bool} {k : Nat} (h : B k = true) : blkT B (k + 1) = blkT B k ++ [((k : Int), (k : Int) + 1)] := by
  rw [blkT_succ]
  unfold preBk
  rw [if_pos h, extT_app]
/-- What blocks of the first k are. -/
structure BI (B : Nat → Bool) (k : Nat) (q : List (Int × Int)) : Prop where
  ne : 0 < q.length
  le : q.length ≤ k
  fst : ∀ p, q[0]? = some p → p.1 = 0
  lst : ∀ p, q[q.length - 1]? = some p → p.2 = k
  nxt : ∀ (b : Nat) p p', q[b]? = some p → q[b + 1]? = some p' → p.2 = p'.1
  lt : ∀ (b : Nat) p, q[b]? = some p → 0 ≤ p.1 ∧ p.1 < p.2 ∧ p.2 ≤ k
  beg : ∀ (b : Nat) p, q[b]? = some p → ∃ i : Nat, p.1 = i ∧ B i = true
  mid : ∀ (b : Nat) p, q[b]? = some p → ∀ i : Nat, p.1 < i → (i : Int) < p.2 → B i = false
theorem app_at {α : Type} {r : List α} {a : α} {b : Nat} {p : α} (h : (r ++ [a])[b]? = some p) : (b < r.length ∧ r[b]? = some p) ∨ (b = r.length ∧ p = a) := by
  rw [List.getElem?_append] at h
  split at h
  · rename_i q; exact .inl ⟨q, h⟩
  · rename_i q
    right
    have hb : b - r.length = 0 := by
      rcases Nat.eq_zero_or_pos (b - r.length) with e | e
      · exact e
      · rw [List.getElem?_eq_none (by simp; omega)] at h; cases h
    rw [hb] at h
    simp at h
    exact ⟨by omega, h.symm⟩
theorem app_last {α : Type} (r : List α) (a : α) : (r ++ [a])[(r ++ [a]).length - 1]? = some a := by simp
theorem blk_inv {B : Nat → Bool} (h0 : B 0 = true) : ∀ k, 0 < k → BI B k (blkT B k) := by
  intro k
  induction k with
  | zero => intro h; omega
  | succ k ih =>
    intro _
    cases hB : B k with
    | true =>
      rw [blkT_yes hB]
      rcases Nat.eq_zero_or_pos k with hk | hk
      · subst hk
        show BI B 1 [((0 : Nat), ((0 : Nat) : Int) + 1)]
        refine ⟨by simp, by simp, ?_, ?_, ?_, ?_, ?_, ?_⟩
        · intro p hp; simp at hp; subst hp; rfl
        · intro p hp; simp at hp; subst hp; rfl
        · intro b p p' hp hp'; simp at hp'
        · intro b p hp; cases b <;> simp at hp; subst hp; simp
        · intro b p hp; cases b <;> simp at hp; subst hp; exact ⟨0, rfl, h0⟩
        · intro b p hp i h1 h2; cases b <;> simp at hp; subst hp; simp at h1 h2; omega
      · have I := ih hk
        have hl := I.lst
        refine ⟨by simp, by have := I.le; simp; omega, ?_, ?_, ?_, ?_, ?_, ?_⟩
        · intro p hp
          rcases app_at hp with ⟨_, q⟩ | ⟨q, _⟩
          · exact I.fst p q
          · have := I.ne; omega
        · intro p hp
          rw [app_last] at hp
          injection hp with hp
          subst hp
          simp
        · intro b p p' hp hp'
          rcases app_at hp' with ⟨q1, q2⟩ | ⟨q1, rfl⟩
          · rcases app_at hp with ⟨_, q⟩ | ⟨q, _⟩
            · exact I.nxt b p p' q q2
            · omega
          · rcases app_at hp with ⟨_, q⟩ | ⟨q, _⟩
            · exact hl p (by rw [← q1]; simpa using q)
            · omega
        · intro b p hp
          rcases app_at hp with ⟨_, q⟩ | ⟨_, rfl⟩
          · have := I.lt b p q; omega
          · simp; omega
        · intro b p hp
          rcases app_at hp with ⟨_, q⟩ | ⟨_, rfl⟩
          · exact I.beg b p q
          · exact ⟨k, rfl, hB⟩
        · intro b p hp i h1 h2
          rcases app_at hp with ⟨_, q⟩ | ⟨_, rfl⟩
          · exact I.mid b p q i h1 h2
          · simp at h1 h2; omega
    | false =>
      have hk : 0 < k := by
        rcases Nat.eq_zero_or_pos k with h | h
        · subst h; rw [h0] at hB; cases hB
        · exact h
      have I := ih hk
      rw [blkT_succ]
      unfold preBk
      rw [if_neg (by rw [hB]; simp)]
      rcases List.eq_nil_or_concat (blkT B k) with h | ⟨r, ⟨f, t⟩, h⟩
      · have := I.ne; rw [h] at this; simp at this
      · rw [List.concat_eq_append] at h
        rw [h] at I ⊢
        rw [extT_app]
        have hl := I.lst _ (app_last r (f, t))
        have hlast : (r ++ [(f, t)])[r.length]? = some (f, t) := by simp
        have hrow : ∀ b p, r[b]? = some p → (r ++ [(f, t)])[b]? = some p := fun b p q => by
          rw [List.getElem?_append_left (List.getElem?_eq_some_iff.1 q).1]; exact q
        have h3 := I.lt _ _ hlast
        dsimp only at hl h3
        refine ⟨by simp, by have := I.le; simp at this ⊢; omega, ?_, ?_, ?_, ?_, ?_, ?_⟩
        · intro p hp
          rcases app_at hp with ⟨_, q⟩ | ⟨q, rfl⟩
          · exact I.fst p (hrow _ _ q)
          · exact I.fst (f, t) (by rw [q]; exact hlast)
        · intro p hp
          rw [app_last] at hp
          injection hp with hp
          subst hp
          simp
        · intro b p p' hp hp'
          rcases app_at hp' with ⟨q1, q2⟩ | ⟨q1, rfl⟩
          · rcases app_at hp with ⟨_, q⟩ | ⟨q, _⟩
            · exact I.nxt b p p' (hrow _ _ q) (hrow _ _ q2)
            · omega
          · rcases app_at hp with ⟨_, q⟩ | ⟨q, _⟩
            · exact I.nxt b p (f, t) (hrow _ _ q) (by rw [q1]; exact hlast)
            · omega
        · intro b p hp
          rcases app_at hp with ⟨_, q⟩ | ⟨_, rfl⟩
          · have := I.lt b p (hrow _ _ q); omega
          · dsimp only; omega
        · intro b p hp
          rcases app_at hp with ⟨_, q⟩ | ⟨_, rfl⟩
          · exact I.beg b p (hrow _ _ q)
          · obtain ⟨i, h1, h2⟩ := I.beg _ _ hlast
            exact ⟨i, h1, h2⟩
        · intro b p hp i h1 h2
          rcases app_at hp with ⟨_, q⟩ | ⟨_, rfl⟩
          · exact I.mid b p (hrow _ _ q) i h1 h2
          · dsimp only at h1 h2
            by_cases e : i = k
            · rw [e]; exact hB
            · exact I.mid _ _ hlast i h1 (by dsimp only; omega)
/-- Which block has an instruction. -/
def ofT (B : Nat → Bool) (i : Nat) : Nat := (blkT B (i + 1)).length - 1
end Go.Proofs.Ytepagfkkjlbipaa
end
section
namespace Go.Proofs.Ytepagfkkjlbipaa
open Go.RowKit
set_option linter.unusedVariables false
set_option linter.unusedSimpArgs false
set_option maxRecDepth 100000
/-- Cells that a slice reads as, outside some blocks. -/
def ReadsF (w : World) (F : Nat → Prop) (size : Nat) (A : Option Addr) (n : Nat) (xs : List Value) : Prop :=
  xs.length = n * size ∧ (0 < n → ∃ ad, A = some ad ∧ ad.block < w.heap.size ∧ ¬ F ad.block ∧ ∀ j u, xs[j]? = some u → w.cell? (ad.add j) = some u)
/-- Numbers that a slice reads as, outside some blocks. -/
def NumsF (w : World) (F : Nat → Prop) (s : Value) (l : List Int) : Prop := ∃ A c, s = .slice A l.length c ∧ l.length ≤ c ∧ ReadsF w F 1 A l.length (l.map (Value.int .i64)) ∧ (∀ x ∈ l, I64 x) ∧ l.length ≤ 5
section
variable {w w' : World} {F G H : Nat → Prop} {size n : Nat} {A : Option Addr} {xs : List Value} {s : Value} {l : List Int}
theorem ReadsF.reads (h : ReadsF w F size A n xs) : Reads w w.heap.size size A n xs := ⟨h.1, fun hn => by
  obtain ⟨ad, e, hb, _, hc⟩ := h.2 hn
  exact ⟨ad, e, hb, hc⟩⟩
theorem ReadsF.chg (h : ReadsF w F size A n xs) (hc : Chg H w w') (hH : ∀ b, H b → F b ∨ w.heap.size ≤ b) (hG : ∀ b, G b → F b ∨ w.heap.size ≤ b) : ReadsF w' G size A n xs := ⟨h.1, fun hn => by
  obtain ⟨ad, e, hb, hf, hcell⟩ := h.2 hn
  exact ⟨ad, e, Nat.lt_of_lt_of_le hb hc.size, fun q => (hG _ q).elim hf (fun k => by omega), fun j u hu => (World.cell?_of_block (by rw [block_of_add]; exact hc.block _ hb (fun q => (hH _ q).elim hf (fun k => by omega)))).trans (hcell j u hu)⟩⟩
theorem ReadsF.none_ : ReadsF w F size A 0 [] := ⟨by simp, fun h => absurd h (by omega)⟩
theorem ReadsF.of_own {base : Nat} {e : TypeId} (h : w.ownsRow base e size s n xs) (hf : ∀ b, s.ownBlock = some b → ¬ F b) : ∃ A c, s = .slice A n c ∧ n ≤ c ∧ ReadsF w F size A n xs := by
  obtain ⟨A, c, rfl, h4, h5⟩ := (RowL.of_own h).slice
  refine ⟨A, c, rfl, h4, h5.1, fun hn => ?_⟩
  obtain ⟨ad, e, hb, hc⟩ := h5.2 hn
  subst e
  exact ⟨ad, rfl, hb, hf _ rfl, hc⟩
theorem NumsF.chg (h : NumsF w F s l) (hc : Chg H w w') (hH : ∀ b, H b → F b ∨ w.heap.size ≤ b) (hG : ∀ b, G b → F b ∨ w.heap.size ≤ b) : NumsF w' G s l := by
  obtain ⟨A, c, h1, h2, h3, h4⟩ := h
  exact ⟨A, c, h1, h2, h3.chg hc hH hG, h4⟩
theorem NumsF.at_ {m c k : Nat} (h : NumsF w F (.slice A m c) l) (hk : k < m) : ∃ ad x, A = some ad ∧ ad.block < w.heap.size ∧ l[k]? = some x ∧ I64 x ∧ w.cell? (ad.add k) = some (.int .i64 x) := by
  obtain ⟨A', c', h1, h2, h3, h4, h5⟩ := h
  injection h1 with h0 h1 hc
  subst h0 h1 hc
  obtain ⟨ad, u, e, hb, hx, hc⟩ := h3.reads.at_ hk
  have hx' : l[k]? = some l[k] := List.getElem?_eq_getElem hk
  rw [List.getElem?_map, hx'] at hx
  injection hx with hx
  subst hx
  exact ⟨ad, _, e, hb, hx', h4 _ (List.getElem_mem _), hc⟩
theorem NumsF.len {m c : Nat} (h : NumsF w F (.slice A m c) l) : l.length = m ∧ m ≤ c ∧ m ≤ 5 := by
  obtain ⟨A', c', h1, h2, h3, h4, h5⟩ := h
  injection h1 with h0 h1 hc
  subst h0 h1 hc
  exact ⟨rfl, h2, h5⟩
theorem NumsF.form (h : NumsF w F s l) : ∃ A c, s = .slice A l.length c := by
  obtain ⟨A, c, h1, _⟩ := h
  exact ⟨A, c, h1⟩
theorem NumsF.nil : NumsF w F (.slice none 0 0) [] := ⟨none, 0, rfl, Nat.le_refl _, ReadsF.none_, by simp, by simp⟩
end
/-- Blocks that a slice reads as, outside some blocks of memory. -/
def BksN (w : World) (F : Nat → Prop) (A : Option Addr) (n : Nat) (l : List BD) : Prop := ∃ q : List (BD × Value), q.map (·.1) = l ∧ q.length = n ∧ ReadsF w F 3 A n (q.flatMap bkC) ∧ ∀ p ∈ q, p.1.wf ∧ NumsF w F p.2 p.1.next
section
variable {w w' : World} {F G H : Nat → Prop} {n : Nat} {A : Option Addr} {l : List BD}
theorem BksN.nil : BksN w F none 0 [] := ⟨[], rfl, rfl, ReadsF.none_, by simp⟩
theorem BksN.chg (h : BksN w F A n l) (hc : Chg H w w') (hH : ∀ b, H b → F b ∨ w.heap.size ≤ b) (hG : ∀ b, G b → F b ∨ w.heap.size ≤ b) : BksN w' G A n l := by
  obtain ⟨q, h1, h2, h3, h4⟩ := h
  exact ⟨q, h1, h2, h3.chg hc hH hG, fun p hp => ⟨(h4 p hp).1, (h4 p hp).2.chg hc hH hG⟩⟩
theorem BksN.len (h : BksN w F A n l) : l.length = n := by
  obtain ⟨q, rfl, h2, _⟩ := h
  rw [List.length_map, h2]
theorem BksN.at_ {k : Nat} (h : BksN w F A n l) (hk : k < n) : ∃ ad x s, A = some ad ∧ ad.block < w.heap.size ∧ ¬ F ad.block ∧ l[k]? = some x ∧ x.wf ∧ NumsF w F s x.next ∧ ∀ j u, (bkC (x, s))[j]? = some u → w.cell? ((ad.add (k * 3)).add j) = some u := by
  obtain ⟨q, rfl, h2, h3, h4⟩ := h
  obtain ⟨ad, e, hb, hf, hc⟩ := h3.2 (by omega)
  have hkq : k < q.length := by omega
  have hx : q[k]? = some q[k] := List.getElem?_eq_getElem hkq
  obtain ⟨h5, h6⟩ := h4 _ (List.getElem_mem hkq)
  refine ⟨ad, q[k].1, q[k].2, e, hb, hf, by rw [List.getElem?_map, hx]; rfl, h5, h6, fun j u hu => ?_⟩
  rw [add_of_add]
  exact hc _ u (bflat_at bkC 3 q (fun z hz => rfl) k j _ u hx hu)
end
end Go.Proofs.Ytepagfkkjlbipaa
end
