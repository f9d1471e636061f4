/-
  The walk of BlocksFew: it answers true. Conditions: those written in each statement.
-/
import Derived.Test.YtbdofidapddgaaaLd
namespace Go.Proofs.Ytbdofidapddgaaa
open Go.RowKit
set_option linter.unusedVariables false
set_option linter.unusedSimpArgs false
theorem pig_le : ∀ {T F : List Int}, T.Nodup → (∀ x ∈ T, x ∈ F) → T.length ≤ F.length
  | [], F, _, _ => by simp
  | x :: t, F, hn, h => by
    rw [List.nodup_cons] at hn
    have hx := h x (by simp)
    have := pig_le (T := t) (F := F.erase x) hn.2 fun y hy => (List.mem_erase_of_ne (fun e => hn.1 (by rw [← e]; exact hy))).2 (h y (by simp [hy]))
    rw [List.length_erase_of_mem hx] at this
    have hp := List.length_pos_of_mem hx
    simp
    omega
theorem blkT_len {B : Nat → Bool} (h0 : B 0 = true) (k : Nat) : (blkT B k).length = ((List.range k).filter B).length := by
  induction k with
  | zero => rfl
  | succ k ih =>
    rw [List.range_succ, List.filter_append, List.length_append, ← ih]
    cases hB : B k with
    | true => rw [blkT_yes hB]; simp [hB]
    | false =>
      have hk : 0 < k := by
        rcases Nat.eq_zero_or_pos k with h | h
        · subst h; rw [h0] at hB; cases hB
        · exact h
      rw [blkT_succ]
      unfold preT
      rw [if_neg (by rw [hB]; simp), extT_len (blk_inv h0 k hk).ne]
      simp [hB]
/-- Where blocks may begin. -/
def begL (l : List ID) : Nat → List Int
  | 0 => [0]
  | k + 1 => begL l k ++ (match l[k]? with
    | some x => (if jmpB x then [(k : Int) + 1] else []) ++ (if tgtB k x then [tgtN k x] else [])
    | none => [])
def cntJ (l : List ID) (k : Nat) : Nat := ((l.take k).filter jmpB).length
theorem cntJ_succ {l : List ID} {k : Nat} {x : ID} (hx : l[k]? = some x) : cntJ l (k + 1) = cntJ l k + (if jmpB x then 1 else 0) := by
  unfold cntJ
  rw [List.take_add_one, hx, Option.toList_some, List.filter_append, List.length_append]
  congr 1
  cases h : jmpB x <;> simp [h]
theorem tgt_jmp {i : Int} {x : ID} (h : tgtB i x = true) : jmpB x = true := by
  unfold tgtB at h
  unfold jmpB
  simp only [Bool.and_eq_true, Bool.or_eq_true] at h ⊢
  rcases h.1.1 with q | q
  · exact .inl q
  · exact .inr (.inl q)
theorem begL_mem {l : List ID} {v : Int} : ∀ {k : Nat}, k ≤ l.length → begT l k v = true → v ∈ begL l k := by
  intro k
  induction k with
  | zero =>
    intro _ h
    unfold begT at h
    simp at h
    simp [begL, h]
  | succ k ih =>
    intro hk h
    have hx : l[k]? = some l[k] := List.getElem?_eq_getElem (by omega)
    rw [begT_succ hx, Bool.or_eq_true] at h
    rw [begL, hx, List.mem_append]
    rcases h with h | h
    · exact .inl (ih (by omega) h)
    · right
      unfold mark at h
      rw [Bool.or_eq_true, Bool.and_eq_true, Bool.and_eq_true] at h
      dsimp only
      rw [List.mem_append]
      rcases h with ⟨h1, h2⟩ | ⟨h1, h2⟩
      · left; rw [if_pos h1]; simpa using h2
      · right; rw [if_pos h1]; simpa using h2
theorem begL_len (l : List ID) : ∀ k, k ≤ l.length → (begL l k).length ≤ 1 + 2 * cntJ l k := by
  intro k
  induction k with
  | zero => intro _; simp [begL]
  | succ k ih =>
    intro hk
    have hx : l[k]? = some l[k] := List.getElem?_eq_getElem (by omega)
    have := ih (by omega)
    rw [begL, hx, cntJ_succ hx, List.length_append]
    dsimp only
    rw [List.length_append]
    cases hj : jmpB l[k] with
    | true =>
      cases ht : tgtB k l[k] <;> simp <;> omega
    | false =>
      have ht : tgtB k l[k] = false := by
        cases h : tgtB k l[k]
        · rfl
        · rw [tgt_jmp h] at hj; cases hj
      rw [ht]
      simp
      omega
theorem few_len {l : List ID} (h1 : 0 < l.length) : 1 ≤ (blkL l).length ∧ (blkL l).length ≤ 1 + 2 * cntJ l l.length := by
  rw [blkL_len]
  refine ⟨(blk_inv (begB_zero l) l.length h1).ne, ?_⟩
  rw [blkT_len (begB_zero l)]
  have hp := pig_le (T := ((List.range l.length).filter (begB l)).map Int.ofNat) (F := begL l l.length) ?_ ?_
  · rw [List.length_map] at hp
    exact Nat.le_trans hp (begL_len l l.length (Nat.le_refl _))
  · refine List.Pairwise.map _ (fun a b hab => ?_) ((List.nodup_range (n := l.length)).filter _)
    intro e
    injection e with e
    exact hab e
  · intro v hv
    obtain ⟨i, hi, rfl⟩ := List.mem_map.1 hv
    have := (List.mem_filter.1 hi).2
    exact begL_mem (Nat.le_refl _) this
theorem two_jumps {l : List ID} {j k : Nat} {x y : ID} (hx : l[j]? = some x) (hy : l[k]? = some y) (hjk : j < k) (h1 : jmpB x = true) (h2 : jmpB y = true) : 2 ≤ cntJ l l.length := by
  have hk := (List.getElem?_eq_some_iff.1 hy).1
  have mono : ∀ a b, a ≤ b → b ≤ l.length → cntJ l a ≤ cntJ l b := by
    intro a b hab hb
    induction b with
    | zero => obtain rfl : a = 0 := by omega
              exact Nat.le_refl _
    | succ b ih =>
      by_cases e : a = b + 1
      · subst e; exact Nat.le_refl _
      · have := ih (by omega) (by omega)
        rw [cntJ_succ (List.getElem?_eq_getElem (by omega : b < l.length))]
        omega
  have a1 := cntJ_succ hx
  have a2 := cntJ_succ hy
  rw [h1, if_pos rfl] at a1
  rw [h2, if_pos rfl] at a2
  have := mono (j + 1) k (by omega) (by omega)
  have := mono (k + 1) l.length (by omega) (Nat.le_refl _)
  omega
/-- A program without jumps but its end is one block. -/
theorem few_one {l : List ID} {x : ID} (h1 : 0 < l.length) (hx : l[l.length - 1]? = some x) (hk : x.kind = 6) (hc : cntJ l l.length ≤ 1) : (blkL l).length = 1 := by
  have hj : jmpB x = true := by unfold jmpB; rw [hk]; rfl
  have hno : ∀ i, 0 < i → i < l.length → begB l i = false := by
    intro i hi hil
    cases hb : begB l i with
    | false => rfl
    | true =>
      exfalso
      rcases begB_inv hb with h | ⟨j, y, hy, hm⟩
      · omega
      · have hjl := (List.getElem?_eq_some_iff.1 hy).1
        unfold mark at hm
        rw [Bool.or_eq_true, Bool.and_eq_true, Bool.and_eq_true] at hm
        rcases hm with ⟨m1, m2⟩ | ⟨m1, m2⟩
        · have : (i : Int) = (j : Int) + 1 := by simpa using m2
          have := two_jumps hy hx (by omega) m1 hj
          omega
        · have hne : j ≠ l.length - 1 := by
            intro e
            subst e
            rw [hx] at hy
            obtain rfl := Option.some.inj hy
            unfold tgtB at m1
            rw [hk] at m1
            simp at m1
          have := two_jumps hy hx (by omega) (tgt_jmp m1) hj
          omega
  rw [blkL_len, blkT_len (begB_zero l)]
  obtain ⟨n, hn⟩ : ∃ n, l.length = n + 1 := ⟨l.length - 1, by omega⟩
  rw [hn] at hno ⊢
  rw [List.range_succ_eq_map, List.filter_cons, if_pos (begB_zero l), List.length_cons]
  rw [List.filter_eq_nil_iff.2 (by
    intro i hi
    obtain ⟨j, hj, rfl⟩ := List.mem_map.1 hi
    have := List.mem_range.1 hj
    rw [hno (j + 1) (by omega) (by omega)]
    simp)]
  rfl
set_option maxRecDepth 100000 in
set_option maxHeartbeats 8000000 in
theorem few_walk (c : Int) (A : Option Addr) (n cap : Nat) (l : List ID) (w : World) (hh : InsAt w w.heap.size A n l) (hc : n ≤ cap) (hm : n < 9223372036854775808) :
    Calls Try.prog 3 #[.agg #[.int .i64 c, .slice A n cap]] w fun e w' => e = .returned (.bool true) ∧ Below w.heap.size w w' := by
  have HL := hide hh.1
  have HE := hide (EnF.new (c := c) (cap := cap) hh)
  clear hh
  go_enter Try.func3, Try.ntmps3
  go_wp2_with fail
  refine (pgreat_any c A n cap _ hm).mono ?_
  rintro e w1 ⟨rfl, hb⟩
  replace HE := hide (HE.out.step hb)
  clear hb
  cases hg : decide (100 < n)
  · have hn100 : n ≤ 100 := by simpa using hg
    have c0 := HE.out.box0
    have c1 := HE.out.box1
    clear hg
    go_wp2_with fail
    refine (run_any c A n cap l _ HE.out.at_ hc hm).mono ?_
    rintro e w2 ⟨A2, cap2, rfl, hc2, hb2, hb⟩
    replace HE := hide (HE.out.step hb)
    clear hb hb2 c0 c1
    have c0 := HE.out.box0
    have c1 := HE.out.box1
    obtain ⟨er, her⟩ : ∃ v, (chkP c l).2 = v := ⟨_, rfl⟩
    rw [her]
    have HER := hide her
    by_cases he : er = 0
    · subst he
      obtain ⟨_, _, hn1, _, _, _, _⟩ := chk_ok her
      have hR : blkR c l = blkL l := by unfold blkR; rw [her]; rfl
      rw [hR] at hc2 ⊢
      obtain ⟨f1, f2⟩ := few_len (l := l) hn1
      have HF1 := hide (fun (x : ID) (hx : l[n - 1]? = some x) (hk : x.kind = 6) (h : cntJ l n ≤ 1) => (by rw [← HL.out] at hx h; exact few_one hn1 hx hk h : (blkL l).length = 1))
      rw [HL.out] at f2 hn1
      have hq : cntJ l n ≤ n := by unfold cntJ; exact Nat.le_trans (List.length_filter_le _ _) (by simp; omega)
      obtain ⟨m, hmR⟩ : ∃ v, (blkL l).length = v := ⟨_, rfl⟩
      rw [hmR] at hc2 f1 f2 HF1 ⊢
      clear hmR her hR
      go_wp2_with fail
      go_loop [5, 6] (fun v i => ∃ k : Nat, k ≤ n ∧ i = .int .i64 k ∧ v = .int .i64 (cntJ l k) ∧ cntJ l k ≤ k) (fun _ i => n - (intOf i).toNat)
      case atStart => exact ⟨0, by omega, rfl, rfl, by simp [cntJ]⟩
      case round =>
        obtain ⟨k, hk, rfl, rfl, hck⟩ := hrel
        by_cases hlt : k < n
        · obtain ⟨ad, x, rfl, hab, hx, hxw, hcell⟩ := HE.out.ins.at_ hlt
          have HCS := hide (cntJ_succ hx)
          have hkc := hcell 0 _ rfl
          rw [add_of_add] at hkc
          have hk0 : w2.cell? (ad.add (k * 9)) = some (.int .i8 x.kind) := hkc
          obtain ⟨kd, hkd⟩ : ∃ v, x.kind = v := ⟨_, rfl⟩
          rw [hkd] at hk0
          have HJ := hide (show jmpB x = (kd == 3 || (kd == 4 || kd == 6)) by unfold jmpB; rw [hkd])
          obtain ⟨q, hq2⟩ : ∃ v, cntJ l k = v := ⟨_, rfl⟩
          rw [hq2] at hck HCS ⊢
          clear hx hxw hcell hkc hkd hq2
          cases h3 : (kd == 3)
          · cases h4 : (kd == 4)
            · cases h6 : (kd == 6)
              · have HN := hide (show cntJ l (k + 1) = q by rw [HCS.out, HJ.out, h3, h4, h6]; rfl)
                go_wp2
                go_round
                case measure => simp [intOf]; omega
                case rel => exact ⟨k + 1, by omega, by go_num, by rw [HN.out], by rw [HN.out]; omega⟩
              · have HN := hide (show cntJ l (k + 1) = q + 1 by rw [HCS.out, HJ.out, h3, h4, h6]; rfl)
                go_wp2
                go_round
                case measure => simp [intOf]; omega
                case rel => exact ⟨k + 1, by omega, by go_num, by rw [HN.out]; go_num, by rw [HN.out]; omega⟩
            · have HN := hide (show cntJ l (k + 1) = q + 1 by rw [HCS.out, HJ.out, h3, h4]; rfl)
              go_wp2
              go_round
              case measure => simp [intOf]; omega
              case rel => exact ⟨k + 1, by omega, by go_num, by rw [HN.out]; go_num, by rw [HN.out]; omega⟩
          · have HN := hide (show cntJ l (k + 1) = q + 1 by rw [HCS.out, HJ.out, h3]; rfl)
            go_wp2
            go_round
            case measure => simp [intOf]; omega
            case rel => exact ⟨k + 1, by omega, by go_num, by rw [HN.out]; go_num, by rw [HN.out]; omega⟩
        · obtain rfl : k = n := by omega
          obtain ⟨ad, x, rfl, hab, hx, hxw, hcell⟩ := HE.out.ins.at_ (k := k - 1) (by omega)
          have hkc := hcell 0 _ rfl
          rw [add_of_add] at hkc
          have hk0 : w2.cell? (ad.add ((k - 1) * 9)) = some (.int .i8 x.kind) := hkc
          have hone := fun (e : x.kind = 6) (h : cntJ l k ≤ 1) => HF1.out x hx e h
          obtain ⟨kd, hkd⟩ : ∃ v, x.kind = v := ⟨_, rfl⟩
          rw [hkd] at hk0 hone
          obtain ⟨q, hq2⟩ : ∃ v, cntJ l k = v := ⟨_, rfl⟩
          rw [hq2] at hck f2 hone hq ⊢
          have HONE := hide hone
          have hti : ((k : Int) - 1).toNat = k - 1 := by omega
          have hlt1 : k - 1 < k := by omega
          have hf1 : (1 : Int) ≤ (m : Int) := by omega
          have hf2 : (m : Int) ≤ 1 + 2 * (q : Int) := by omega
          have hk1 : (1 : Int) ≤ (k : Int) := by omega
          clear hx hxw hcell hkc hkd hq2 HF1 hone hlt
          cases hq1 : decide ((1 : Int) < (q : Int))
          · cases h6 : (kd != 6)
            · obtain rfl : m = 1 := HONE.out (by simpa using h6) (by simp at hq1; omega)
              go_wp2_with fail
              refine (wakes_any _).mono ?_
              rintro e w12 ⟨rfl, hb⟩
              replace HE := hide (HE.out.step hb)
              clear hb
              go_wp2
              go_ret
              exact ⟨rfl, HE.out.below⟩
            · go_wp2_with fail
              refine (wakes_any _).mono ?_
              rintro e w12 ⟨rfl, hb⟩
              replace HE := hide (HE.out.step hb)
              clear hb
              go_wp2
              go_ret
              exact ⟨rfl, HE.out.below⟩
          · go_wp2_with fail
            refine (wakes_any _).mono ?_
            rintro e w12 ⟨rfl, hb⟩
            replace HE := hide (HE.out.step hb)
            clear hb
            go_wp2
            go_ret
            exact ⟨rfl, HE.out.below⟩
    · have be : (er != 0) = true := by simpa using he
      clear he her HER hc2 c0 c1
      go_wp2_with fail
      refine (wakes_any _).mono ?_
      rintro e w12 ⟨rfl, hb⟩
      replace HE := hide (HE.out.step hb)
      clear hb
      go_wp2
      go_ret
      exact ⟨rfl, HE.out.below⟩
  · clear hg
    go_wp2_with fail
    refine (wakes_any _).mono ?_
    rintro e w12 ⟨rfl, hb⟩
    replace HE := hide (HE.out.step hb)
    clear hb
    go_wp2
    go_ret
    exact ⟨rfl, HE.out.below⟩
end Go.Proofs.Ytbdofidapddgaaa
