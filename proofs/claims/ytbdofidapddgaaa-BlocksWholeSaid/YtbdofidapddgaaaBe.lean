/-
  Whether blocks may be: latheref04.May, blocks.May. Conditions: those written in each statement.
-/
import Derived.Test.YtbdofidapddgaaaBd
namespace Go.Proofs.Ytbdofidapddgaaa
open Go.RowKit
set_option linter.unusedVariables false
set_option linter.unusedSimpArgs false
def inR (n : Nat) (x : Int) : Bool := decide (0 ≤ x) && decide (x < n)
/-- Where block k must begin. -/
def atK (l : List BD) (k : Nat) : Int := match k with
  | 0 => 0
  | k + 1 => match l[k]? with
    | some x => x.to
    | none => 0
def baseB (l : List BD) (k : Nat) (x : BD) : Bool := (x.frm == atK l k) && (decide (atK l k < x.to) && (decide (x.to ≤ 64) && decide (x.next.length ≤ 2)))
def mayAt (l : List BD) (k : Nat) (x : BD) : Bool := baseB l k x && x.next.all (inR l.length)
def mayL (l : List BD) : Bool := (List.range l.length).all fun k => match l[k]? with
  | some x => mayAt l k x
  | none => true
theorem mayL_bad {l : List BD} {k : Nat} {x : BD} (hx : l[k]? = some x) (h : mayAt l k x = false) : mayL l = false := by
  unfold mayL
  rw [List.all_eq_false]
  exact ⟨k, List.mem_range.2 (List.getElem?_eq_some_iff.1 hx).1, by rw [hx]; dsimp only; rw [h]; simp⟩
theorem mayL_good {l : List BD} (h : ∀ k x, k < l.length → l[k]? = some x → mayAt l k x = true) : mayL l = true := by
  unfold mayL
  rw [List.all_eq_true]
  intro k hk
  have hk' := List.mem_range.1 hk
  rw [List.getElem?_eq_getElem hk']
  exact h k _ hk' (List.getElem?_eq_getElem hk')
theorem mayL_at {l : List BD} (h : mayL l = true) {k : Nat} {x : BD} (hx : l[k]? = some x) : mayAt l k x = true := by
  unfold mayL at h
  rw [List.all_eq_true] at h
  have := h k (List.mem_range.2 (List.getElem?_eq_some_iff.1 hx).1)
  rw [hx] at this
  exact this
theorem atK_succ {l : List BD} {k : Nat} {x : BD} (hx : l[k]? = some x) : atK l (k + 1) = x.to := by
  show (match l[k]? with
    | some x => x.to
    | none => 0) = x.to
  rw [hx]
theorem base_eq {l : List BD} {k m : Nat} {fr tt av : Int} {nx : List Int} (ha : atK l k = av) (hm : nx.length = m) : baseB l k ⟨fr, tt, nx⟩ = ((fr == av) && (decide (av < tt) && (decide (tt ≤ 64) && decide (m ≤ 2)))) := by
  subst ha hm
  rfl
theorem all_take_succ {p : Int → Bool} {l : List Int} {j : Nat} {x : Int} (hx : l[j]? = some x) : (l.take (j + 1)).all p = ((l.take j).all p && p x) := by
  rw [List.take_add_one, hx, Option.toList_some, List.all_append]
  simp
set_option maxRecDepth 100000 in
set_option maxHeartbeats 4000000 in
theorem dmay_any (A : Option Addr) (n c B : Nat) (l : List BD) (w : World) (hh : BksAt w B A n l) (hm : n < 9223372036854775808) :
    Calls Try.prog 17 #[.slice A n c] w (DrP (mayL l) w) := by
  have HL := hide hh.len
  have HH := hide hh
  clear hh
  go_enter Try.func17, Try.ntmps17
  go_wp2
  go_loopw [3, 4] (fun v i wr => ∃ k : Nat, k ≤ n ∧ i = .int .i64 k ∧ v = .int .i64 (atK l k) ∧ Hid (∀ j x, j < k → l[j]? = some x → mayAt l j x = true) ∧ Hid (∃ d, wr = w.drewN d)) (fun _ i _ => n - (intOf i).toNat)
  case atStart => exact ⟨0, by omega, rfl, rfl, fun j x h => by omega, ⟨0, rfl⟩⟩
  case round =>
    obtain ⟨k, hk, rfl, rfl, HT, HD⟩ := hrel
    by_cases hlt : k < n
    · obtain ⟨ad, x, s, rfl, hab, hx, hxw, hns, hcell⟩ := HH.out.at_ hlt
      have HX := hide hx
      have HSU := hide (atK_succ hx)
      obtain ⟨av, hav⟩ : ∃ v, atK l k = v := ⟨_, rfl⟩
      rw [hav]
      obtain ⟨fr, tt, nx⟩ := x
      dsimp only at HSU hns
      obtain ⟨As, cs, rfl⟩ := hns.form
      have HS := hide hns
      have e0 := (dr_cell HD.out _).trans (hcell 0 _ rfl)
      have e1 := (dr_cell HD.out _).trans (hcell 1 _ rfl)
      have e2 := (dr_cell HD.out _).trans (hcell 2 _ rfl)
      obtain ⟨p, hp⟩ : ∃ p, ad.add (k * 3) = p := ⟨_, rfl⟩
      rw [hp] at e0 e1 e2
      simp [Addr.add] at e0 e1 e2
      have HDm := fun m => hide (dr_more HD.out m)
      obtain ⟨m, hm2⟩ : ∃ v, nx.length = v := ⟨_, rfl⟩
      have HBS := hide (base_eq (fr := fr) (tt := tt) hav hm2)
      rw [hm2] at e2 HS
      have HM := hide hm2
      have hml : m < 9223372036854775808 := HS.out.len.2.2
      clear hcell hxw hx hns hav hm2
      cases h0 : (fr != av)
      · obtain rfl : fr = av := by simpa using h0
        cases h1 : decide (tt ≤ fr)
        · cases h2 : decide (64 < tt)
          · cases h3 : decide ((2 : Int) < (m : Int))
            · have HG := hide (show baseB l k ⟨fr, tt, nx⟩ = true by
                rw [HBS.out]
                simp at h1 h2 h3
                simp
                omega)
              go_wp2_with fail
              go_quiet (fail)
              go_wp2_with fail
              have g2 : (wr.drewN nq).cell? ⟨p.block, p.off + 2, none⟩ = some (.slice As m cs) := e2
              go_loop [5] (fun i => ∃ j : Nat, j ≤ m ∧ i = .int .i64 j ∧ Hid ((nx.take j).all (inR l.length) = true)) (fun i => m - (intOf i).toNat)
              case atStart => exact ⟨0, by omega, rfl, by simp [hide]⟩
              case round =>
                obtain ⟨j, hj, rfl, HJ⟩ := hrel
                by_cases hlj : j < m
                · obtain ⟨ad3, y, rfl, _, hy, hyi, hcy⟩ := HS.out.at_ hlj
                  have HY := hide hy
                  have f0 : (wr.drewN nq).cell? (ad3.add j) = some (.int .i64 y) := (dr_cell HD.out _).trans hcy
                  clear hy hyi hcy
                  cases q0 : decide (y < 0)
                  · cases q1 : decide ((n : Int) ≤ y)
                    · have HIN := hide (show inR l.length y = true by unfold inR; rw [HL.out]; simp at q0 q1; simp; omega)
                      go_wp2
                      go_round
                      case measure => simp [intOf]; omega
                      case rel => exact ⟨j + 1, by omega, by go_num, by rw [all_take_succ HY.out, HJ.out, HIN.out]; rfl⟩
                    · have HIN := hide (mayL_bad HX.out (show mayAt l k ⟨fr, tt, nx⟩ = false by
                        unfold mayAt
                        rw [Bool.and_eq_false_iff]
                        right
                        rw [List.all_eq_false]
                        exact ⟨y, List.mem_of_getElem? HY.out, by unfold inR; rw [HL.out]; simp at q1; simp; omega⟩))
                      go_wp2
                      go_ret
                      exact ⟨ret_bb HIN.out.symm, (HDm _).out⟩
                  · have HIN := hide (mayL_bad HX.out (show mayAt l k ⟨fr, tt, nx⟩ = false by
                      unfold mayAt
                      rw [Bool.and_eq_false_iff]
                      right
                      rw [List.all_eq_false]
                      exact ⟨y, List.mem_of_getElem? HY.out, by unfold inR; simp at q0; simp; omega⟩))
                    go_wp2
                    go_ret
                    exact ⟨ret_bb HIN.out.symm, (HDm _).out⟩
                · obtain rfl : j = m := by omega
                  have HIN := hide (show mayAt l k ⟨fr, tt, nx⟩ = true by
                    unfold mayAt
                    have := HJ.out
                    rw [List.take_of_length_le (by rw [HM.out]; exact Nat.le_refl _)] at this
                    rw [HG.out, this]
                    rfl)
                  clear HJ
                  go_wp2
                  go_roundw
                  case measure => simp [intOf]; omega
                  case rel =>
                    refine ⟨k + 1, by omega, by go_num, by rw [HSU.out], fun j x hj hx => ?_, (HDm _).out⟩
                    rcases Nat.lt_or_ge j k with h | h
                    · exact HT.out j x h hx
                    · obtain rfl : j = k := by omega
                      rw [HX.out] at hx
                      exact Option.some.inj hx ▸ HIN.out
            · have HIN := hide (mayL_bad HX.out (show mayAt l k ⟨fr, tt, nx⟩ = false by unfold mayAt; rw [HBS.out]; simp at h3; simp; omega))
              go_wp2_with fail
              go_quiet (fail)
              go_wp2
              go_ret
              exact ⟨ret_bb HIN.out.symm, (HDm _).out⟩
          · have HIN := hide (mayL_bad HX.out (show mayAt l k ⟨fr, tt, nx⟩ = false by unfold mayAt; rw [HBS.out]; simp at h2; simp; omega))
            go_wp2_with fail
            go_quiet (fail)
            go_wp2
            go_ret
            exact ⟨ret_bb HIN.out.symm, (HDm _).out⟩
        · have HIN := hide (mayL_bad HX.out (show mayAt l k ⟨fr, tt, nx⟩ = false by unfold mayAt; rw [HBS.out]; simp at h1; simp; omega))
          go_wp2_with fail
          go_quiet (fail)
          go_wp2
          go_ret
          exact ⟨ret_bb HIN.out.symm, (HDm _).out⟩
      · have HIN := hide (mayL_bad HX.out (show mayAt l k ⟨fr, tt, nx⟩ = false by unfold mayAt; rw [HBS.out]; simp at h0; simp [h0]))
        go_wp2_with fail
        go_quiet (fail)
        go_wp2
        go_ret
        exact ⟨ret_bb HIN.out.symm, (HDm _).out⟩
    · obtain rfl : k = n := by omega
      have HIN := hide (mayL_good (l := l) (by rw [HL.out]; exact HT.out))
      go_wp2
      go_ret
      exact ⟨ret_bb HIN.out.symm, HD.out⟩
end Go.Proofs.Ytbdofidapddgaaa
