/-
  Events that came in: one, a slice of them. Conditions: those written in each statement.
  latheref28.Same, Brings; symbc.Brings of events that came in. Conditions: those written in each statement.
-/
import Derived.Test.YtepagfkkjlbipaaGreatEl
import Derived.Test.YtepagfkkjlbipaaGreatKaq
import Derived.Test.YtepagfkkjlbipaaGreatKab
import Derived.Test.YtepagfkkjlbipaaGreatKitF
import Derived.Test.YtepagfkkjlbipaaGreatKac
section
namespace Go.Proofs.YtepagfkkjlbipaaGreat
open Go.RowKit Go.WideShapes Go.ChangeShapes Go.Deep
set_option linter.unusedVariables false
set_option linter.unusedSimpArgs false
set_option maxRecDepth 100000
/-- Events that a slice reads as, their arguments' rows as they came. -/
def AcsAt (w : World) (B : Nat) (A : Option Addr) (n : Nat) (l : List EvD) : Prop := ∃ q : List (EvD × Value), q.map (·.1) = l ∧ q.length = n ∧ Reads w B 6 A n (q.flatMap evC) ∧ ∀ p ∈ q, p.1.wf ∧ NxAt w B p.2 p.1.args
section
variable {w w' : World} {B B' n : Nat} {A : Option Addr} {l : List EvD}
theorem AcsAt.len (h : AcsAt w B A n l) : l.length = n := by
 obtain ⟨q, rfl, h2, _⟩ := h
 rw [List.length_map, h2]
theorem AcsAt.at_ {k : Nat} (h : AcsAt w B A n l) (hk : k < n) : ∃ ad x s, A = some ad ∧ ad.block < B ∧ l[k]? = some x ∧ x.wf ∧ NxAt w B s x.args ∧ ∀ j u, (evC (x, s))[j]? = some u → w.cell? ((ad.add (k * 6)).add j) = some u := by
 obtain ⟨q, rfl, h2, h3, h4⟩ := h
 obtain ⟨ad, e, hb, hc⟩ := h3.2 (by omega)
 have hkq : k < q.length := by omega
 have hx : q[k]? = some q[k] := List.getElem?_eq_getElem hkq
 obtain ⟨h5, h6⟩ := h4 _ (List.getElem_mem hkq)
 refine ⟨ad, q[k].1, q[k].2, e, hb, by rw [List.getElem?_map, hx]; rfl, h5, h6, fun j u hu => ?_⟩
 rw [add_of_add]
 exact hc _ u (flat_at evC 6 q (fun z hz => rfl) k j _ u hx hu)
theorem AcsAt.below (h : AcsAt w B A n l) (hb : Below B w w') : AcsAt w' B A n l := by
 obtain ⟨q, h1, h2, h3, h4⟩ := h
 exact ⟨q, h1, h2, h3.below hb, fun p hp => ⟨(h4 p hp).1, (h4 p hp).2.below hb⟩⟩
theorem AcsAt.more (h : AcsAt w B A n l) (hB : B ≤ B') : AcsAt w B' A n l := by
 obtain ⟨q, h1, h2, h3, h4⟩ := h
 exact ⟨q, h1, h2, h3.more hB, fun p hp => ⟨(h4 p hp).1, (h4 p hp).2.more hB⟩⟩
theorem AcsAt.nil : AcsAt w B none 0 [] := ⟨[], rfl, rfl, Reads.none_, by simp⟩
end
theorem cellsAc : Tryz.prog.cellsOf 72 = 6 := by kernel_rfl
theorem cellsI8 : Tryz.prog.cellsOf 30 = 1 := by kernel_rfl
section
variable {H : Type} {enc : TypeId × Value → H} {w : World} {base b0 : Nat} {re : Reach} {spare : Nat → Bool} {held : Bool}
theorem row_ac {fuel : Nat} {cs : List Value} {x : DataW H × List MemPlace} (h : DataW.trod enc Tryz.prog w base spare held fuel 72 cs = some x) : ∃ p : EvD × Value, cs = evC p ∧ p.1.wf ∧ NxAt w w.heap.size p.2 p.1.args := by
 obtain ⟨xs, n, _, hx, hl, hlen, hg⟩ := DataW.trod_struct Tryz.underlying72 h
 rw [cellsAc] at hl
 match cs, hl with
 | [c0, c1, c2, c3, c4, c5], _ =>
  match xs, hlen with
  | [y0, y1, y2, y3, y4, y5], _ =>
   have g0 : DataW.trod enc Tryz.prog w base spare held n 30 (([c0, c1, c2, c3, c4, c5].drop 0).take (Tryz.prog.cellsOf 30)) = some y0 := hg 0 _ rfl
   have g1 : DataW.trod enc Tryz.prog w base spare held n 30 (([c0, c1, c2, c3, c4, c5].drop 1).take (Tryz.prog.cellsOf 30)) = some y1 := hg 1 _ rfl
   have g2 : DataW.trod enc Tryz.prog w base spare held n 3 (([c0, c1, c2, c3, c4, c5].drop 2).take (Tryz.prog.cellsOf 3)) = some y2 := hg 2 _ rfl
   have g3 : DataW.trod enc Tryz.prog w base spare held n 3 (([c0, c1, c2, c3, c4, c5].drop 3).take (Tryz.prog.cellsOf 3)) = some y3 := hg 3 _ rfl
   have g4 : DataW.trod enc Tryz.prog w base spare held n 3 (([c0, c1, c2, c3, c4, c5].drop 4).take (Tryz.prog.cellsOf 3)) = some y4 := hg 4 _ rfl
   have g5 : DataW.trod enc Tryz.prog w base spare held n 28 (([c0, c1, c2, c3, c4, c5].drop 5).take (Tryz.prog.cellsOf 28)) = some y5 := hg 5 _ rfl
   rw [cellsI8] at g0 g1
   rw [cellsIn] at g2 g3 g4
   rw [cellsLn] at g5
   obtain ⟨n0, h0, _, w0⟩ := DataW.trod_int (cs := [c0]) Tryz.underlying30 g0
   obtain ⟨n1, h1, _, w1⟩ := DataW.trod_int (cs := [c1]) Tryz.underlying30 g1
   obtain ⟨n2, h2, _, w2⟩ := DataW.trod_int (cs := [c2]) Tryz.underlying3 g2
   obtain ⟨n3, h3, _, w3⟩ := DataW.trod_int (cs := [c3]) Tryz.underlying3 g3
   obtain ⟨n4, h4, _, w4⟩ := DataW.trod_int (cs := [c4]) Tryz.underlying3 g4
   injection h0 with h0 _
   injection h1 with h1 _
   injection h2 with h2 _
   injection h3 with h3 _
   injection h4 with h4 _
   subst h0 h1 h2 h3 h4
   obtain ⟨l, hn⟩ := nx_in (v := c5) g5
   have b0 := bounds_i8 w0
   have b1 := bounds_i8 w1
   have b2 := bounds_i64 w2
   have b3 := bounds_i64 w3
   have b4 := bounds_i64 w4
   exact ⟨(⟨n0, n1, n2, n3, n4, l⟩, c5), rfl, ⟨by unfold I8; dsimp only; omega, by unfold I8; dsimp only; omega, by unfold I64; dsimp only; omega, by unfold I64; dsimp only; omega, by unfold I64; dsimp only; omega⟩, hn⟩
theorem acc_in {v : Value} {d : DataW H} {p : List MemPlace} (hv : Value.okWide Tryz.prog w re b0 72 v) (h : DataW.Trod enc Tryz.prog w base spare held 72 v d p) : ∃ x s, v = .agg (evC (x, s)).toArray ∧ x.wf ∧ NxAt w w.heap.size s x.args := by
 obtain ⟨cs, rfl, hsz⟩ := okWide_struct Tryz.underlying72 hv
 obtain ⟨fuel, hf⟩ := h
 obtain ⟨q, hq, h1, h2⟩ := row_ac hf
 refine ⟨q.1, q.2, ?_, h1, h2⟩
 rw [← hq]
 simp [Value.cells]
theorem accs_in {v : Value} {d : DataW H} {p : List MemPlace} (hv : Value.okWide Tryz.prog w re b0 61 v) (h : DataW.Trod enc Tryz.prog w base spare held 61 v d p) :
  ∃ A n c l, v = .slice A n c ∧ AcsAt w w.heap.size A n l ∧ n ≤ c ∧ n < 9223372036854775808 := by
 obtain ⟨A, n, c, rfl⟩ := okWide_slice Tryz.underlying61 hv
 obtain ⟨fuel, hf⟩ := h
 rcases open_slice Tryz.underlying61 hf with ⟨hcs, _⟩ | ⟨a, len, cap, mm, nn, D, Pl, hcs, _, hl, hm, hmm, _, hel⟩
 ·simp [Value.cells] at hcs
  obtain ⟨rfl, rfl, rfl⟩ := hcs
  exact ⟨none, 0, 0, [], rfl, AcsAt.nil, Nat.le_refl _, by omega⟩
 ·simp [Value.cells] at hcs
  obtain ⟨rfl, rfl, rfl⟩ := hcs
  have hle : n ≤ mm := by rw [hmm]; split <;> omega
  unfold maxLen at hm
  obtain ⟨q, hq, hp⟩ := list_of (fun i (p : EvD × Value) => p.1.wf ∧ NxAt w w.heap.size p.2 p.1.args ∧ ∀ j u, (evC p)[j]? = some u → w.cell? ((a.add (i * 6)).add j) = some u) n (fun i hi => by
   obtain ⟨cs', hc, ht'⟩ := hel i (by omega)
   rw [cellsAc] at hc
   obtain ⟨_, hcl, hat⟩ := World.cells?_some hc
   obtain ⟨p, rfl, h1, h2⟩ := row_ac ht'
   exact ⟨p, h1, h2, fun j u hu => by
    have hj : j < (evC p).length := (List.getElem?_eq_some_iff.1 hu).1
    rw [hat j hj, hu]⟩)
  refine ⟨some a, n, c, q.map (·.1), rfl, ⟨q, rfl, hq, ⟨?_, fun hn => ⟨a, rfl, ?_, fun j u hu => ?_⟩⟩, fun p hp' => ?_⟩, hl, by omega⟩
  ·rw [← hq]
   exact ev_len q
  ·have h0 := (hp 0 _ (List.getElem?_eq_getElem (by omega))).2.2 0 _ rfl
   have h4 := World.block_lt_of_cell? w _ h0
   rwa [block_of_add, block_of_add] at h4
  ·rw [List.flatMap_def] at hu
   obtain ⟨k, r, y, rfl, h2, h3⟩ := flat_inv 6 (q.map evC) (fun z hz => by obtain ⟨y, _, rfl⟩ := List.mem_map.1 hz; rfl) j u hu
   rw [List.getElem?_map] at h2
   obtain ⟨y', h4, rfl⟩ := Option.map_eq_some_iff.1 h2
   have := (hp k y' h4).2.2 r u h3
   rwa [add_of_add] at this
  ·obtain ⟨i, hi, rfl⟩ := List.getElem_of_mem hp'
   have := hp i _ (List.getElem?_eq_getElem hi)
   exact ⟨this.1, this.2.1⟩
end
end Go.Proofs.YtepagfkkjlbipaaGreat
end
section
namespace Go.Proofs.YtepagfkkjlbipaaGreat
open Go.RowKit
set_option linter.unusedVariables false
set_option linter.unusedSimpArgs false
set_option maxRecDepth 100000
set_option maxHeartbeats 4000000 in
theorem rsame_any (x y : EvD) (v u : Value) (w : World) (hv : NxAt w w.heap.size v x.args) (hu : NxAt w w.heap.size u y.args) : Calls Tryz.prog 23 #[.agg (evC (x, v)).toArray, .agg (evC (y, u)).toArray] w fun e w' => e = .returned (.bool (sameE x y)) ∧ Below w.heap.size w w' := by
 obtain ⟨A, c, hv1⟩ := hv.form
 obtain ⟨A2, c2, hu1⟩ := hu.form
 subst hv1 hu1
 obtain ⟨k1, s1, a1, v1, n1, l1⟩ := x
 obtain ⟨k2, s2, a2, v2, n2, l2⟩ := y
 dsimp only at hv hu
 show Calls Tryz.prog 23 #[.agg #[.int .i8 k1, .int .i8 s1, .int .i64 a1, .int .i64 v1, .int .i64 n1, .slice A l1.length c], .agg #[.int .i8 k2, .int .i8 s2, .int .i64 a2, .int .i64 v2, .int .i64 n2, .slice A2 l2.length c2]] w _
 obtain ⟨w1, hw1⟩ : ∃ z, (w.alloc (.cells #[.int .i8 k1, .int .i8 s1, .int .i64 a1, .int .i64 v1, .int .i64 n1, .slice A l1.length c] 72)).alloc (.cells #[.int .i8 k2, .int .i8 s2, .int .i64 a2, .int .i64 v2, .int .i64 n2, .slice A2 l2.length c2] 72) = z := ⟨_, rfl⟩
 have hb : Below w.heap.size w w1 := by rw [← hw1]; exact ((Below.refl _ w).alloc (Nat.le_refl _) _).alloc (by simp) _
 have hs1 : w1.heap.size = w.heap.size + 2 := by rw [← hw1]; simp
 have HV := hide (hv.below hb)
 have HU := hide (hu.below hb)
 have HB := hide hb
 obtain ⟨_, hlc1, hml1⟩ := hv.len
 obtain ⟨_, hlc2, hml2⟩ := hu.len
 obtain ⟨m1, hm1⟩ : ∃ k, l1.length = k := ⟨_, rfl⟩
 obtain ⟨m2, hm2⟩ : ∃ k, l2.length = k := ⟨_, rfl⟩
 obtain ⟨r, hr⟩ : ∃ b, sameE ⟨k1, s1, a1, v1, n1, l1⟩ ⟨k2, s2, a2, v2, n2, l2⟩ = b := ⟨_, rfl⟩
 have HR := hide (show r = (k1 == k2 && (s1 == s2 && (a1 == a2 && (v1 == v2 && (n1 == n2 && sameI l1 l2))))) by rw [← hr]; rfl)
 rw [hr]
 have HM := hide (And.intro hm1 hm2)
 rw [hm1] at hlc1 hml1
 rw [hm2] at hlc2 hml2
 rw [hm1, hm2] at hw1 ⊢
 have HX : Blk w1 w.heap.size 72 #[.int .i8 k1, .int .i8 s1, .int .i64 a1, .int .i64 v1, .int .i64 n1, .slice A m1 c] := by rw [← hw1]; exact (Blk.new w 72 #[.int .i8 k1, .int .i8 s1, .int .i64 a1, .int .i64 v1, .int .i64 n1, .slice A m1 c]).alloc _
 have HY : Blk w1 (w.heap.size + 1) 72 #[.int .i8 k2, .int .i8 s2, .int .i64 a2, .int .i64 v2, .int .i64 n2, .slice A2 m2 c2] := by
  rw [← hw1]
  have := Blk.new (w.alloc (.cells #[.int .i8 k1, .int .i8 s1, .int .i64 a1, .int .i64 v1, .int .i64 n1, .slice A m1 c] 72)) 72 #[.int .i8 k2, .int .i8 s2, .int .i64 a2, .int .i64 v2, .int .i64 n2, .slice A2 m2 c2]
  simpa using this
 have x0 : w1.cell? ⟨w.heap.size, 0, none⟩ = some (.int .i8 k1) := HX.cell 0
 have x1 : w1.cell? ⟨w.heap.size, 1, none⟩ = some (.int .i8 s1) := HX.cell 1
 have x2 : w1.cell? ⟨w.heap.size, 2, none⟩ = some (.int .i64 a1) := HX.cell 2
 have x3 : w1.cell? ⟨w.heap.size, 3, none⟩ = some (.int .i64 v1) := HX.cell 3
 have x4 : w1.cell? ⟨w.heap.size, 4, none⟩ = some (.int .i64 n1) := HX.cell 4
 have x5 : w1.cell? ⟨w.heap.size, 5, none⟩ = some (.slice A m1 c) := HX.cell 5
 have y0 : w1.cell? ⟨w.heap.size + 1, 0, none⟩ = some (.int .i8 k2) := HY.cell 0
 have y1 : w1.cell? ⟨w.heap.size + 1, 1, none⟩ = some (.int .i8 s2) := HY.cell 1
 have y2 : w1.cell? ⟨w.heap.size + 1, 2, none⟩ = some (.int .i64 a2) := HY.cell 2
 have y3 : w1.cell? ⟨w.heap.size + 1, 3, none⟩ = some (.int .i64 v2) := HY.cell 3
 have y4 : w1.cell? ⟨w.heap.size + 1, 4, none⟩ = some (.int .i64 n2) := HY.cell 4
 have y5 : w1.cell? ⟨w.heap.size + 1, 5, none⟩ = some (.slice A2 m2 c2) := HY.cell 5
 have HX0 := hide HX
 have HY0 := hide HY
 clear hv hu hb hm1 hm2 hr HX HY
 cases ek : (k1 == k2)
 ·go_enter Tryz.func23, Tryz.ntmps23
  have e : (k1 != k2) = true := by simpa using ek
  go_wp2
  go_ret
  exact ⟨by rw [HR.out, ek]; simp, HB.out⟩
 ·have e0 : (k1 != k2) = false := by simpa using ek
  cases es : (s1 == s2)
  ·go_enter Tryz.func23, Tryz.ntmps23
   have e : (s1 != s2) = true := by simpa using es
   go_wp2
   go_ret
   exact ⟨by rw [HR.out, ek, es]; simp, HB.out⟩
  ·have e1 : (s1 != s2) = false := by simpa using es
   cases ea : (a1 == a2)
   ·go_enter Tryz.func23, Tryz.ntmps23
    have e : (a1 != a2) = true := by simpa using ea
    go_wp2
    go_ret
    exact ⟨by rw [HR.out, ek, es, ea]; simp, HB.out⟩
   ·have e2 : (a1 != a2) = false := by simpa using ea
    cases ev : (v1 == v2)
    ·go_enter Tryz.func23, Tryz.ntmps23
     have e : (v1 != v2) = true := by simpa using ev
     go_wp2
     go_ret
     exact ⟨by rw [HR.out, ek, es, ea, ev]; simp, HB.out⟩
    ·have e3 : (v1 != v2) = false := by simpa using ev
     cases en : (n1 == n2)
     ·go_enter Tryz.func23, Tryz.ntmps23
      have e : (n1 != n2) = true := by simpa using en
      go_wp2
      go_ret
      exact ⟨by rw [HR.out, ek, es, ea, ev, en]; simp, HB.out⟩
     ·have e4 : (n1 != n2) = false := by simpa using en
      cases hne : ((m1 : Int) != (m2 : Int))
      rotate_left
      ·have HQ := hide (sameI_len (a := l1) (b := l2) (by rw [HM.out.1, HM.out.2]; simp at hne; omega))
       go_enter Tryz.func23, Tryz.ntmps23
       go_wp2
       go_ret
       exact ⟨by rw [HR.out, ek, es, ea, ev, en, HQ.out]; simp, HB.out⟩
      ·obtain rfl : m1 = m2 := by simp at hne; omega
       have HRS := hide (show r = sameI l1 l2 by rw [HR.out, ek, es, ea, ev, en]; simp)
       go_enter Tryz.func23, Tryz.ntmps23
       go_wp2_with fail
       clear ek es ea ev en e0 e1 e2 e3 e4 hne x0 x1 x2 x3 x4 x5 y0 y1 y2 y3 y4 y5
       go_loopw [5] (fun i wr => ∃ k : Nat, k ≤ m1 ∧ i = .int .i64 k ∧ Hid (∀ j, j < k → l1[j]? = l2[j]?) ∧ Hid (Below w1.heap.size w1 wr)) (fun i _ => m1 - (intOf i).toNat)
       case atStart => exact ⟨0, by omega, rfl, fun j h => absurd h (Nat.not_lt_zero _), Below.refl _ _⟩
       case round =>
        obtain ⟨k, hk, rfl, HT, HLP⟩ := hrel
        rename World => wr
        have x5 : wr.cell? ⟨w.heap.size, 5, none⟩ = some (.slice A m1 c) := (HLP.out.cell (p := ⟨w.heap.size, 5, none⟩) HX0.out.lt).trans (HX0.out.cell 5)
        have y5 : wr.cell? ⟨w.heap.size + 1, 5, none⟩ = some (.slice A2 m1 c2) := (HLP.out.cell (p := ⟨w.heap.size + 1, 5, none⟩) HY0.out.lt).trans (HY0.out.cell 5)
        by_cases hlt : k < m1
        ·have hvr := HV.out.reads
         rw [HM.out.1] at hvr
         have hur := HU.out.reads
         rw [HM.out.2] at hur
         obtain ⟨ad, rfl, hab, hcl⟩ := hvr.2 (by omega)
         obtain ⟨ad2, rfl, hab2, hcl2⟩ := hur.2 (by omega)
         obtain ⟨p, hp⟩ : ∃ p, l1[k]? = some p := ⟨_, List.getElem?_eq_getElem (by rw [HM.out.1]; exact hlt)⟩
         obtain ⟨q, hq⟩ : ∃ q, l2[k]? = some q := ⟨_, List.getElem?_eq_getElem (by rw [HM.out.2]; exact hlt)⟩
         have g0 : wr.cell? (ad.add k) = some (.int .i64 p) := (HLP.out.cell (by rw [block_of_add]; omega)).trans (hcl k _ (by rw [List.getElem?_map, hp]; rfl))
         have g1 : wr.cell? (ad2.add k) = some (.int .i64 q) := (HLP.out.cell (by rw [block_of_add]; omega)).trans (hcl2 k _ (by rw [List.getElem?_map, hq]; rfl))
         have HP := hide (And.intro hp hq)
         clear hvr hur hab hab2 hcl hcl2 hp hq
         go_upto_region 6 with fail
         cases hpq : (p != q)
         ·go_quiet (fail)
          have hbn := below_drewN HLP.out nq
          have HLQ := hide hbn
          clear x5 y5 g0 g1 hbn HLP
          generalize wr.drewN nq = wq at HLQ ⊢
          go_wp2
          go_roundw
          case measure => simp [intOf]; omega
          case rel =>
           refine ⟨k + 1, by omega, by go_num, fun j hj => ?_, HLQ.out⟩
           rcases Nat.lt_or_ge j k with h | h
           ·exact HT.out j h
           ·obtain rfl : j = k := by omega
            rw [HP.out.1, HP.out.2, show p = q by simpa using hpq]
         ·have HQ := hide (sameI_at HP.out.1 HP.out.2 (by simpa using hpq))
          go_quiet (fail)
          have hbn := below_drewN HLP.out nq
          have HLQ := hide hbn
          clear x5 y5 g0 g1 hbn HLP
          generalize wr.drewN nq = wq at HLQ ⊢
          go_wp2
          go_ret
          exact ⟨by rw [HRS.out, HQ.out]; rfl, HB.out.trans (HLQ.out.mono HB.out.size)⟩
        ·obtain rfl : k = m1 := by omega
         have HQ := hide (sameI_all (a := l1) (b := l2) (by rw [HM.out.1, HM.out.2]) (by rw [HM.out.1]; exact HT.out))
         go_wp2
         go_ret
         exact ⟨by rw [HRS.out, HQ.out]; rfl, HB.out.trans (HLP.out.mono HB.out.size)⟩
set_option maxHeartbeats 4000000 in
theorem rbrings_any (A : Option Addr) (n c B : Nat) (l : List EvD) (w : World) (h : AcsAt w B A n l) (hB : B ≤ w.heap.size) (hn : n ≤ 100) :
  Calls Tryz.prog 25 #[.slice A n c] w fun e w' => e = .returned (.int .i64 (bringsN l : Int)) ∧ Below w.heap.size w w' := by
 have HL := hide h.len
 have HE := hide h
 have HB0 := hide hB
 clear h hB
 go_enter Tryz.func25, Tryz.ntmps25
 go_wp2
 go_loopw [3, 4] (fun v i wr => ∃ k : Nat, k ≤ n ∧ i = .int .i64 k ∧ v = .int .i64 (brT l k : Int) ∧ Hid (Below w.heap.size w wr)) (fun _ i _ => n - (intOf i).toNat)
 case atStart => exact ⟨0, by omega, rfl, rfl, Below.refl _ _⟩
 case round =>
  obtain ⟨k, hk, rfl, rfl, HB⟩ := hrel
  rename World => wr
  by_cases hlt : k < n
  ·obtain ⟨ad, x, v, rfl, hab, hx, hxw, hnv, hcell⟩ := (HE.out.below (HB.out.mono HB0.out)).at_ hlt
   have ck : wr.cell? (ad.add (k * 6)) = some (.int .i8 x.kind) := by
    have := hcell 0 _ rfl
    rwa [add_of_add, Nat.add_zero] at this
   have HX := hide hx
   have hbt := brT_le l k
   obtain ⟨t, ht⟩ : ∃ t, brT l k = t := ⟨_, rfl⟩
   rw [ht] at hbt ⊢
   have HT := hide ht
   obtain ⟨kd, hkd⟩ : ∃ v, x.kind = v := ⟨_, rfl⟩
   rw [hkd] at ck
   have HKD := hide hkd
   clear hx hcell hxw hnv ht hab hkd
   cases h0 : (kd == 0)
   rotate_left
   ·have HS := hide (show brT l (k + 1) = t + 1 by rw [brT_succ HX.out, ← HT.out, if_pos (by unfold bringB; rw [HKD.out]; simp at h0; rw [h0]; rfl)])
    go_wp2
    go_roundw
    case measure => simp [intOf]; omega
    case rel => exact ⟨k + 1, by omega, by go_num, by rw [HS.out]; go_num, HB.out⟩
   cases h2 : (kd == 2)
   rotate_left
   ·have HS := hide (show brT l (k + 1) = t + 1 by rw [brT_succ HX.out, ← HT.out, if_pos (by unfold bringB; rw [HKD.out]; simp at h2; rw [h2]; rfl)])
    go_wp2
    go_roundw
    case measure => simp [intOf]; omega
    case rel => exact ⟨k + 1, by omega, by go_num, by rw [HS.out]; go_num, HB.out⟩
   have HS := hide (show brT l (k + 1) = t by rw [brT_succ HX.out, ← HT.out, if_neg (by unfold bringB; rw [HKD.out]; simp at h0 h2 ⊢; exact ⟨h0, h2⟩)])
   go_wp2
   go_roundw
   case measure => simp [intOf]; omega
   case rel => exact ⟨k + 1, by omega, by go_num, by rw [HS.out], HB.out⟩
  ·obtain rfl : k = n := by omega
   have HS := hide (show brT l k = bringsN l by unfold brT; rw [List.take_of_length_le (by rw [HL.out]; exact Nat.le_refl _)])
   go_wp2
   go_ret
   exact ⟨by rw [HS.out]; rfl, HB.out⟩
set_option maxHeartbeats 4000000 in
theorem brings_in (A : Option Addr) (n c B : Nat) (l : List EvD) (w : World) (h : AcsAt w B A n l) (hB : B ≤ w.heap.size) (hn : n ≤ 100) :
  Calls Tryz.prog 24 #[.slice A n c] w fun e w' => e = .returned (.int .i64 (bringsN l : Int)) ∧ Below w.heap.size w w' := by
 have HL := hide h.len
 have HB0 := hide hB
 have HE := hide h
 clear h hB
 go_enter Tryz.func24, Tryz.ntmps24
 go_wp2
 go_loopw [2, 7] (fun v i wr => ∃ k : Nat, k ≤ n ∧ i = .int .i64 k ∧ v = .int .i64 (brT l k : Int) ∧ Below w.heap.size w wr) (fun _ i _ => n - (intOf i).toNat)
 case atStart => exact ⟨0, by omega, rfl, rfl, Below.refl _ _⟩
 case round =>
  obtain ⟨k, hk, rfl, rfl, hb⟩ := hrel
  have HB := hide hb
  clear hb
  by_cases hlt : k < n
  ·obtain ⟨ad, x, v, rfl, hab, hx, hxw, hnv, hcell⟩ := (HE.out.below (HB.out.mono HB0.out)).at_ hlt
   obtain ⟨A', c', rfl⟩ := hnv.form
   have HX := hide hx
   have HC := hide hcell
   have hsz := HB.out.size
   have hbt := brT_le l k
   obtain ⟨t, ht⟩ : ∃ t, brT l k = t := ⟨_, rfl⟩
   rw [ht] at hbt ⊢
   have HT := hide ht
   clear hx hcell hxw hnv ht
   go_upto_region 4 with (first
    | (refine wpList_load_at rfl 72 (.tmp 9) rfl (ad.add (k * 6)) (by rfl) (evC (x, .slice A' x.args.length c')) _ HC.out Tryz.underlying72 rfl sizA ?_)
    | (refine wpList_store_new rfl 72 (.tmp 4) (.tmp 10) rfl _ (evC (x, .slice A' x.args.length c')) (.agg (evC (x, .slice A' x.args.length c')).toArray) (by rfl) (by rfl) rfl sizA (by rfl) (EvD.one rfl) ?_
       intro w4 X4 L4 S4
       have HX4 := hide X4
       have HB4 := hide (HB.out.trans (L4.mono hsz))
       clear X4 L4 S4)
    | fail)
   have b0 : w4.cell? ⟨wr.heap.size, 0, none⟩ = some (.int .i8 x.kind) := HX4.out.cell 0
   obtain ⟨kd, hkd⟩ : ∃ v, x.kind = v := ⟨_, rfl⟩
   rw [hkd] at b0
   have HKD := hide hkd
   clear hkd
   cases h0 : (kd != 0)
   ·have HS := hide (show brT l (k + 1) = t + 1 by rw [brT_succ HX.out, ← HT.out, if_pos (by unfold bringB; rw [HKD.out]; simp at h0; rw [h0]; rfl)])
    go_wp2
    go_roundw
    case measure => simp [intOf]; omega
    case rel => exact ⟨k + 1, by omega, by go_num, by rw [HS.out]; go_num, HB4.out⟩
   ·cases h2 : (kd != 2)
    ·have HS := hide (show brT l (k + 1) = t + 1 by rw [brT_succ HX.out, ← HT.out, if_pos (by unfold bringB; rw [HKD.out]; simp at h2; rw [h2]; rfl)])
     go_wp2
     go_roundw
     case measure => simp [intOf]; omega
     case rel => exact ⟨k + 1, by omega, by go_num, by rw [HS.out]; go_num, HB4.out⟩
    ·have HS := hide (show brT l (k + 1) = t by rw [brT_succ HX.out, ← HT.out, if_neg (by unfold bringB; rw [HKD.out]; simp at h0 h2 ⊢; exact ⟨h0, h2⟩)])
     go_wp2
     go_roundw
     case measure => simp [intOf]; omega
     case rel => exact ⟨k + 1, by omega, by go_num, by rw [HS.out], HB4.out⟩
  ·obtain rfl : k = n := by omega
   have HS := hide (show brT l k = bringsN l by unfold brT; rw [List.take_of_length_le (by rw [HL.out]; exact Nat.le_refl _)])
   go_wp2
   go_ret
   exact ⟨by rw [HS.out]; rfl, HB.out⟩
end Go.Proofs.YtepagfkkjlbipaaGreat
end
