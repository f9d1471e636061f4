/-
  The document's laws of a constant on the right, where two constants do not come together. Conditions: those written in each statement.
-/
import Derived.Test.YtfjflefgclfbfaaGreatQc
namespace Go.Proofs.YtfjflefgclfbfaaGreat
open Go.RowKit
set_option linter.unusedVariables false
set_option linter.unusedSimpArgs false
set_option maxRecDepth 100000
section
variable {base g f : Nat}
set_option maxHeartbeats 16000000 in
theorem by_rest (op x a : Int) (s : TD) (d : Int) (hd : U64 d) (hs : s.wf) (hop : 0 ≤ op ∧ op ≤ 12) (hx : x = 32 ∨ x = 64) (F : Nat → Prop) (p : PS) (q : Option RS) (W : World) (h : RefAt W base F g p) (hbase : base ≤ W.heap.size) (hA : assocB p.T s op x true = false) (ha : hasB p.T a = true)
    (hq : (if sameB op x d = true then (zextF f p x a).map some else if nilB op d = true then some (some (putR p (constT 0))) else some none) = some q) :
    Calls Tryz.prog 80 #[.pointer (some ⟨g, 0, none⟩), .int .i8 op, .int .i8 x, .int .i64 a, termV s, .int .u64 d] W (RetB base g F W p q) := by
  obtain ⟨t, ht⟩ : ∃ t, atP p.T s.b = t := ⟨_, rfl⟩
  have HAS := hide (show (op == 0 && ((t.kind == 0) && (s.kind == 2 && (s.op == 0 && s.w == x)))) = false by have := hA; unfold assocB at this; rw [ht] at this; simpa using this)
  have HT := hide ht
  have HQ := hide hq
  have HD := hide hd
  have HXW := hide hx
  have HOP := hide hop
  have HHA := hide ha
  have HP := hide (RG.of_below h (bl_alloc' W (.cells s.cells.toArray 67)))
  have HZ := hide (Blk.new W 67 s.cells.toArray)
  have HNF := hide (fun q => by have := (h.fb _ q).2; omega : ¬ F W.heap.size)
  have hbw := Nat.le_trans hbase (bl_alloc' W (.cells s.cells.toArray 67)).size
  clear h ht hq hd hs hA hop hx ha
  unfold termV
  go_enter Tryz.func80, Tryz.ntmps80
  go_upto_region 1 with fail
  generalize W.alloc (.cells s.cells.toArray 67) = w1 at HP HZ hbw ⊢
  obtain ⟨bs, hbs⟩ : ∃ b, W.heap.size = b := ⟨_, rfl⟩
  rw [hbs] at HZ HNF ⊢
  clear hbs
  have c0 := HZ.out.cell 0
  have c1 := HZ.out.cell 1
  have c2 := HZ.out.cell 2
  have c5 := HZ.out.cell 5
  simp [TD.cells] at c0 c1 c2 c5
  have HAS2 := hide (show ((op == 0 && (s.kind == 2 && (s.op == 0 && s.w == x))) && (t.kind == 0)) = false by
    have := HAS.out
    cases q1 : (op == 0) <;> cases q2 : (s.kind == 2) <;> cases q3 : (s.op == 0) <;> cases q4 : (s.w == x) <;> cases q5 : (t.kind == 0) <;> simp_all)
  go_cut [41] from 24 to 41 (fun v wc => v = .bool (op == 0 && (s.kind == 2 && (s.op == 0 && s.w == x))) ∧ wc = w1)
  case first =>
    as_aux_lemma =>
      cases h0 : (op == 0)
      · go_wp2
        go_meet
        case rel => exact ⟨by simp [h0], rfl⟩
      cases h1 : (s.kind == 2)
      · go_wp2
        go_meet
        case rel => exact ⟨by simp [h0, h1], rfl⟩
      cases h2 : (s.op == 0)
      · go_wp2
        go_meet
        case rel => exact ⟨by simp [h0, h1, h2], rfl⟩
      cases h3 : (s.w == x)
      all_goals
        go_wp2
        go_meet
        case rel => exact ⟨by simp [h0, h1, h2, h3], rfl⟩
  case rest =>
  obtain ⟨rfl, rfl⟩ := hcut
  obtain ⟨bb, hbb⟩ : ∃ b, (op == 0 && (s.kind == 2 && (s.op == 0 && s.w == x))) = b := ⟨_, rfl⟩
  rw [hbb] at HAS2
  rw [hbb]
  clear hbb
  go_upto_if 41 with fail
  go_cut [] from 42 to 73 (fun wc => RG base g F W F p wc)
  case first =>
    as_aux_lemma =>
      cases bb
      · go_wp2
        go_meet
        case rel => exact HP.out
      have h4 : (t.kind == 0) = false := by simpa using HAS2.out
      go_wp2_with fail
      refine (get_r s.b _ HP.out.pool).mono ?_
      rintro e w2 ⟨rfl, hb⟩
      have HP1 := hide (HP.out.step hb)
      rw [HT.out]
      clear hb HP HZ c0 c1 c2 c5
      go_upto_region 3 with (first
        | (refine wpList_store_new rfl 67 (.tmp 15) (.tmp 45) rfl _ t.cells (termV t) (by rfl) (by rfl) rfl sizT rfl (TD.one _) ?_
           intro w5 G5 L5 Z5
           have HX := hide G5
           have HP2 := hide (HP1.out.step L5)
           clear G5 L5 Z5)
        | fail)
      have b0 := HX.out.cell 0
      simp [TD.cells] at b0
      go_wp2
      go_meet
      case rel => exact HP2.out
  case rest =>
    have HP5 := hide hcut
    clear hcut HP HZ HNF hbw c0 c1 c2 c5 HAS HAS2 HT
    have hbc : base ≤ wc.heap.size := Nat.le_trans hbase HP5.out.size
    go_upto_region 9 with fail
    go_cut [18] from 74 to 83 (fun v wd => v = .bool (shiftsB op) ∧ wd = wc)
    case first =>
      as_aux_lemma =>
        cases h6 : (op == 6)
        rotate_left
        · go_wp2
          go_meet
          case rel => exact ⟨by unfold shiftsB; simp [h6], rfl⟩
        cases h7 : (op == 7)
        rotate_left
        · go_wp2
          go_meet
          case rel => exact ⟨by unfold shiftsB; simp [h7], rfl⟩
        cases h12 : (op == 12)
        all_goals
          go_wp2
          go_meet
          case rel => exact ⟨by unfold shiftsB; simp [h6, h7, h12], rfl⟩
    case rest =>
      obtain ⟨rfl, rfl⟩ := hcut
      go_upto_region 10 with fail
      go_cut [19] from 84 to 134 (fun v wd => v = .bool (sameB op x d) ∧ wd = wc)
      case first =>
        as_aux_lemma =>
          have hops : op = 0 ∨ op = 1 ∨ op = 2 ∨ op = 3 ∨ op = 4 ∨ op = 5 ∨ op = 6 ∨ op = 7 ∨ op = 8 ∨ op = 9 ∨ op = 10 ∨ op = 11 ∨ op = 12 := by have := HOP.out; omega
          have hxw := HXW.out
          rcases hops with rfl | rfl | rfl | rfl | rfl | rfl | rfl | rfl | rfl | rfl | rfl | rfl | rfl
          · clear hxw
            cases h0 : (d == 0)
            · cases h1 : (d == 1)
              · go_wp2
                go_meet
                case rel => exact ⟨by unfold sameB shiftsB; simp [h0, h1], rfl⟩
              · go_wp2
                go_meet
                case rel => exact ⟨by unfold sameB shiftsB; simp [h0, h1], rfl⟩
            · go_wp2
              go_meet
              case rel => exact ⟨by unfold sameB shiftsB; simp [h0], rfl⟩
          · clear hxw
            cases h0 : (d == 0)
            · cases h1 : (d == 1)
              · go_wp2
                go_meet
                case rel => exact ⟨by unfold sameB shiftsB; simp [h0, h1], rfl⟩
              · go_wp2
                go_meet
                case rel => exact ⟨by unfold sameB shiftsB; simp [h0, h1], rfl⟩
            · have h1 : (d == 1) = false := by
                have hd0 : d = 0 := by simpa using h0
                rw [hd0]
                rfl
              go_wp2
              go_meet
              case rel => exact ⟨by unfold sameB shiftsB; simp [h0, h1], rfl⟩
          · clear hxw
            cases h0 : (d == 0)
            · cases h1 : (d == 1)
              · go_wp2
                go_meet
                case rel => exact ⟨by unfold sameB shiftsB; simp [h0, h1], rfl⟩
              · go_wp2
                go_meet
                case rel => exact ⟨by unfold sameB shiftsB; simp [h0, h1], rfl⟩
            · have h1 : (d == 1) = false := by
                have hd0 : d = 0 := by simpa using h0
                rw [hd0]
                rfl
              go_wp2
              go_meet
              case rel => exact ⟨by unfold sameB shiftsB; simp [h0, h1], rfl⟩
          · clear hxw
            cases h0 : (d == 0)
            · cases h1 : (d == 1)
              · go_wp2
                go_meet
                case rel => exact ⟨by unfold sameB shiftsB; simp [h0, h1], rfl⟩
              · go_wp2
                go_meet
                case rel => exact ⟨by unfold sameB shiftsB; simp [h0, h1], rfl⟩
            · have h1 : (d == 1) = false := by
                have hd0 : d = 0 := by simpa using h0
                rw [hd0]
                rfl
              go_wp2
              go_meet
              case rel => exact ⟨by unfold sameB shiftsB; simp [h0, h1], rfl⟩
          · clear hxw
            cases h0 : (d == 0)
            · cases h1 : (d == 1)
              · go_wp2
                go_meet
                case rel => exact ⟨by unfold sameB shiftsB; simp [h0, h1], rfl⟩
              · go_wp2
                go_meet
                case rel => exact ⟨by unfold sameB shiftsB; simp [h0, h1], rfl⟩
            · go_wp2
              go_meet
              case rel => exact ⟨by unfold sameB shiftsB; simp [h0], rfl⟩
          · clear hxw
            cases h0 : (d == 0)
            · cases h1 : (d == 1)
              · go_wp2_with fail
                refine (rcut_any _ _ u64_max _).mono ?_
                rintro e w7 ⟨rfl, rfl⟩
                cases hm : (d == cutV x 18446744073709551615)
                · go_wp2
                  go_meet
                  case rel => exact ⟨by unfold sameB shiftsB; simp [h0, h1, hm], rfl⟩
                · go_wp2
                  go_meet
                  case rel => exact ⟨by unfold sameB shiftsB; simp [h0, h1, hm], rfl⟩
              · go_wp2_with fail
                refine (rcut_any _ _ u64_max _).mono ?_
                rintro e w7 ⟨rfl, rfl⟩
                cases hm : (d == cutV x 18446744073709551615)
                · go_wp2
                  go_meet
                  case rel => exact ⟨by unfold sameB shiftsB; simp [h0, h1, hm], rfl⟩
                · go_wp2
                  go_meet
                  case rel => exact ⟨by unfold sameB shiftsB; simp [h0, h1, hm], rfl⟩
            · have h1 : (d == 1) = false := by
                have hd0 : d = 0 := by simpa using h0
                rw [hd0]
                rfl
              go_wp2_with fail
              refine (rcut_any _ _ u64_max _).mono ?_
              rintro e w7 ⟨rfl, rfl⟩
              cases hm : (d == cutV x 18446744073709551615)
              · go_wp2
                go_meet
                case rel => exact ⟨by unfold sameB shiftsB; simp [h0, h1, hm], rfl⟩
              · go_wp2
                go_meet
                case rel => exact ⟨by unfold sameB shiftsB; simp [h0, h1, hm], rfl⟩
          · rcases hxw with rfl | rfl
            · cases h0 : (d == 0)
              · cases hs : (bits .and .u64 d 31 == 0)
                · cases h1 : (d == 1)
                  · go_wp2
                    go_meet
                    case rel => exact ⟨by unfold sameB shiftsB; simp [h0, hs, h1], rfl⟩
                  · go_wp2
                    go_meet
                    case rel => exact ⟨by unfold sameB shiftsB; simp [h0, hs, h1], rfl⟩
                · go_wp2
                  go_meet
                  case rel => exact ⟨by unfold sameB shiftsB; simp [h0, hs], rfl⟩
              · have hs : (bits .and .u64 d 31 == 0) = true := by
                  have hd0 : d = 0 := by simpa using h0
                  rw [hd0]
                  rfl
                go_wp2
                go_meet
                case rel => exact ⟨by unfold sameB shiftsB; simp [h0, hs], rfl⟩
            · cases h0 : (d == 0)
              · cases hs : (bits .and .u64 d 63 == 0)
                · cases h1 : (d == 1)
                  · go_wp2
                    go_meet
                    case rel => exact ⟨by unfold sameB shiftsB; simp [h0, hs, h1], rfl⟩
                  · go_wp2
                    go_meet
                    case rel => exact ⟨by unfold sameB shiftsB; simp [h0, hs, h1], rfl⟩
                · go_wp2
                  go_meet
                  case rel => exact ⟨by unfold sameB shiftsB; simp [h0, hs], rfl⟩
              · have hs : (bits .and .u64 d 63 == 0) = true := by
                  have hd0 : d = 0 := by simpa using h0
                  rw [hd0]
                  rfl
                go_wp2
                go_meet
                case rel => exact ⟨by unfold sameB shiftsB; simp [h0, hs], rfl⟩
          · rcases hxw with rfl | rfl
            · cases h0 : (d == 0)
              · cases hs : (bits .and .u64 d 31 == 0)
                · cases h1 : (d == 1)
                  · go_wp2
                    go_meet
                    case rel => exact ⟨by unfold sameB shiftsB; simp [h0, hs, h1], rfl⟩
                  · go_wp2
                    go_meet
                    case rel => exact ⟨by unfold sameB shiftsB; simp [h0, hs, h1], rfl⟩
                · go_wp2
                  go_meet
                  case rel => exact ⟨by unfold sameB shiftsB; simp [h0, hs], rfl⟩
              · have hs : (bits .and .u64 d 31 == 0) = true := by
                  have hd0 : d = 0 := by simpa using h0
                  rw [hd0]
                  rfl
                go_wp2
                go_meet
                case rel => exact ⟨by unfold sameB shiftsB; simp [h0, hs], rfl⟩
            · cases h0 : (d == 0)
              · cases hs : (bits .and .u64 d 63 == 0)
                · cases h1 : (d == 1)
                  · go_wp2
                    go_meet
                    case rel => exact ⟨by unfold sameB shiftsB; simp [h0, hs, h1], rfl⟩
                  · go_wp2
                    go_meet
                    case rel => exact ⟨by unfold sameB shiftsB; simp [h0, hs, h1], rfl⟩
                · go_wp2
                  go_meet
                  case rel => exact ⟨by unfold sameB shiftsB; simp [h0, hs], rfl⟩
              · have hs : (bits .and .u64 d 63 == 0) = true := by
                  have hd0 : d = 0 := by simpa using h0
                  rw [hd0]
                  rfl
                go_wp2
                go_meet
                case rel => exact ⟨by unfold sameB shiftsB; simp [h0, hs], rfl⟩
          · clear hxw
            cases h0 : (d == 0)
            · cases h1 : (d == 1)
              · go_wp2
                go_meet
                case rel => exact ⟨by unfold sameB shiftsB; simp [h0, h1], rfl⟩
              · go_wp2
                go_meet
                case rel => exact ⟨by unfold sameB shiftsB; simp [h0, h1], rfl⟩
            · have h1 : (d == 1) = false := by
                have hd0 : d = 0 := by simpa using h0
                rw [hd0]
                rfl
              go_wp2
              go_meet
              case rel => exact ⟨by unfold sameB shiftsB; simp [h0, h1], rfl⟩
          · clear hxw
            cases h0 : (d == 0)
            · cases h1 : (d == 1)
              · go_wp2
                go_meet
                case rel => exact ⟨by unfold sameB shiftsB; simp [h0, h1], rfl⟩
              · go_wp2
                go_meet
                case rel => exact ⟨by unfold sameB shiftsB; simp [h0, h1], rfl⟩
            · have h1 : (d == 1) = false := by
                have hd0 : d = 0 := by simpa using h0
                rw [hd0]
                rfl
              go_wp2
              go_meet
              case rel => exact ⟨by unfold sameB shiftsB; simp [h0, h1], rfl⟩
          · clear hxw
            cases h0 : (d == 0)
            · cases h1 : (d == 1)
              · go_wp2
                go_meet
                case rel => exact ⟨by unfold sameB shiftsB; simp [h0, h1], rfl⟩
              · go_wp2
                go_meet
                case rel => exact ⟨by unfold sameB shiftsB; simp [h0, h1], rfl⟩
            · go_wp2
              go_meet
              case rel => exact ⟨by unfold sameB shiftsB; simp [h0], rfl⟩
          · clear hxw
            cases h0 : (d == 0)
            · cases h1 : (d == 1)
              · go_wp2
                go_meet
                case rel => exact ⟨by unfold sameB shiftsB; simp [h0, h1], rfl⟩
              · go_wp2
                go_meet
                case rel => exact ⟨by unfold sameB shiftsB; simp [h0, h1], rfl⟩
            · have h1 : (d == 1) = false := by
                have hd0 : d = 0 := by simpa using h0
                rw [hd0]
                rfl
              go_wp2
              go_meet
              case rel => exact ⟨by unfold sameB shiftsB; simp [h0, h1], rfl⟩
          · rcases hxw with rfl | rfl
            · cases h0 : (d == 0)
              · cases hs : (bits .and .u64 d 31 == 0)
                · cases h1 : (d == 1)
                  · go_wp2
                    go_meet
                    case rel => exact ⟨by unfold sameB shiftsB; simp [h0, hs, h1], rfl⟩
                  · go_wp2
                    go_meet
                    case rel => exact ⟨by unfold sameB shiftsB; simp [h0, hs, h1], rfl⟩
                · go_wp2
                  go_meet
                  case rel => exact ⟨by unfold sameB shiftsB; simp [h0, hs], rfl⟩
              · have hs : (bits .and .u64 d 31 == 0) = true := by
                  have hd0 : d = 0 := by simpa using h0
                  rw [hd0]
                  rfl
                go_wp2
                go_meet
                case rel => exact ⟨by unfold sameB shiftsB; simp [h0, hs], rfl⟩
            · cases h0 : (d == 0)
              · cases hs : (bits .and .u64 d 63 == 0)
                · cases h1 : (d == 1)
                  · go_wp2
                    go_meet
                    case rel => exact ⟨by unfold sameB shiftsB; simp [h0, hs, h1], rfl⟩
                  · go_wp2
                    go_meet
                    case rel => exact ⟨by unfold sameB shiftsB; simp [h0, hs, h1], rfl⟩
                · go_wp2
                  go_meet
                  case rel => exact ⟨by unfold sameB shiftsB; simp [h0, hs], rfl⟩
              · have hs : (bits .and .u64 d 63 == 0) = true := by
                  have hd0 : d = 0 := by simpa using h0
                  rw [hd0]
                  rfl
                go_wp2
                go_meet
                case rel => exact ⟨by unfold sameB shiftsB; simp [h0, hs], rfl⟩
      case rest =>
        obtain ⟨rfl, rfl⟩ := hcut
        obtain ⟨sb, hsb⟩ : ∃ v, sameB op x d = v := ⟨_, rfl⟩
        obtain ⟨nb, hnb⟩ : ∃ v, nilB op d = v := ⟨_, rfl⟩
        rw [hsb, hnb] at HQ
        rw [hsb]
        have HNB := hide hnb
        clear hsb hnb
        cases sb
        rotate_left
        · have hq := HQ.out
          rw [if_pos rfl, Option.map_eq_some_iff] at hq
          obtain ⟨r, hz, rfl⟩ := hq
          have HZF := hide hz
          clear hz
          go_wp2_with fail
          refine (zext_r_good x (by have := HXW.out; unfold wdB; simp; omega) f a HHA.out _ r HZF.out _ HP5.out.pool hbc).mono ?_
          rintro e w7 ⟨rfl, F1, hp⟩
          have HP6 := hide (HP5.out.trans hp)
          clear hp
          obtain ⟨p1, n1, e1⟩ := r
          dsimp only at HP6 ⊢
          go_wp2
          exact bodyPost_ret (v := .tuple #[.int .i64 n1, .bool true, .int .i64 e1]) (by simp [results, Tryz.results80, go_sem]) rfl ⟨rfl, _, HP6.out⟩
        have hq := HQ.out
        rw [if_neg (by simp)] at hq
        have HQ2 := hide hq
        clear hq
        cases nb
        rotate_left
        · have hq := HQ2.out
          rw [if_pos rfl] at hq
          injection hq with hq
          subst hq
          have hnb := HNB.out
          unfold nilB at hnb
          rw [Bool.and_eq_true] at hnb
          obtain ⟨hd0, hop3⟩ := hnb
          have HOP3 := hide hop3
          clear hop3
          cases h2 : (op == 2)
          rotate_left
          · go_upto_region 15 with fail
            go_wp2_with fail
            refine (const_r 0 (by unfold U64; omega) _ HP5.out.pool hbc).mono ?_
            rintro e w7 ⟨rfl, F1, hp⟩
            have HP6 := hide (HP5.out.trans hp)
            clear hp
            obtain ⟨q0, hq0⟩ : ∃ q, putR p (constT 0) = q := ⟨_, rfl⟩
            rw [hq0] at HP6 ⊢
            obtain ⟨p1, n1, e1⟩ := q0
            dsimp only at HP6 ⊢
            go_wp2
            exact bodyPost_ret (v := .tuple #[.int .i64 n1, .bool true, .int .i64 e1]) (by simp [results, Tryz.results80, go_sem]) rfl (by rw [hq0]; exact ⟨rfl, _, HP6.out⟩)
          cases h5 : (op == 5)
          rotate_left
          · go_upto_region 15 with fail
            go_wp2_with fail
            refine (const_r 0 (by unfold U64; omega) _ HP5.out.pool hbc).mono ?_
            rintro e w7 ⟨rfl, F1, hp⟩
            have HP6 := hide (HP5.out.trans hp)
            clear hp
            obtain ⟨q0, hq0⟩ : ∃ q, putR p (constT 0) = q := ⟨_, rfl⟩
            rw [hq0] at HP6 ⊢
            obtain ⟨p1, n1, e1⟩ := q0
            dsimp only at HP6 ⊢
            go_wp2
            exact bodyPost_ret (v := .tuple #[.int .i64 n1, .bool true, .int .i64 e1]) (by simp [results, Tryz.results80, go_sem]) rfl (by rw [hq0]; exact ⟨rfl, _, HP6.out⟩)
          cases h3 : (op == 3)
          · exact absurd HOP3.out (by simp [h2, h5, h3])
          · go_upto_region 15 with fail
            go_wp2_with fail
            refine (const_r 0 (by unfold U64; omega) _ HP5.out.pool hbc).mono ?_
            rintro e w7 ⟨rfl, F1, hp⟩
            have HP6 := hide (HP5.out.trans hp)
            clear hp
            obtain ⟨q0, hq0⟩ : ∃ q, putR p (constT 0) = q := ⟨_, rfl⟩
            rw [hq0] at HP6 ⊢
            obtain ⟨p1, n1, e1⟩ := q0
            dsimp only at HP6 ⊢
            go_wp2
            exact bodyPost_ret (v := .tuple #[.int .i64 n1, .bool true, .int .i64 e1]) (by simp [results, Tryz.results80, go_sem]) rfl (by rw [hq0]; exact ⟨rfl, _, HP6.out⟩)
        · have hq := HQ2.out
          rw [if_neg (by simp)] at hq
          injection hq with hq
          subst hq
          cases hd0 : (d == 0)
          · go_wp2
            exact bodyPost_ret (v := .tuple #[.int .i64 0, .bool false, .int .i64 0]) (by simp [results, Tryz.results80, go_sem]) rfl ⟨rfl, _, HP5.out⟩
          · have hnb := HNB.out
            unfold nilB at hnb
            rw [hd0, Bool.true_and] at hnb
            have h2 : (op == 2) = false := by cases q : (op == 2) <;> simp_all
            have h5 : (op == 5) = false := by cases q : (op == 5) <;> simp_all
            have h3 : (op == 3) = false := by cases q : (op == 3) <;> simp_all
            clear hnb
            go_wp2
            exact bodyPost_ret (v := .tuple #[.int .i64 0, .bool false, .int .i64 0]) (by simp [results, Tryz.results80, go_sem]) rfl ⟨rfl, _, HP5.out⟩
end
/-- The document's byConst. -/
theorem by_r {base g f : Nat} (hIH : ROpC base g f) (op x a : Int) (s : TD) (d : Int) (hd : U64 d) (hs : s.wf) (hop : 0 ≤ op ∧ op ≤ 12) (hx : x = 32 ∨ x = 64) (F : Nat → Prop) (p : PS) (q : Option RS) (W : World) (h : RefAt W base F g p) (hbase : base ≤ W.heap.size) (ha : hasB p.T a = true)
    (hq : byF f p op x a s d = some q) : Calls Tryz.prog 80 #[.pointer (some ⟨g, 0, none⟩), .int .i8 op, .int .i8 x, .int .i64 a, termV s, .int .u64 d] W (RetB base g F W p q) := by
  unfold byF at hq
  cases hA : assocB p.T s op x true
  · rw [hA, if_neg (by simp)] at hq
    exact by_rest op x a s d hd hs hop hx F p q W h hbase hA ha hq
  · rw [hA, if_pos rfl, Option.map_eq_some_iff] at hq
    obtain ⟨r, hr, rfl⟩ := hq
    exact by_assoc hIH op x a s d hd hs F p r W h hbase hA hr
end Go.Proofs.YtfjflefgclfbfaaGreat
