/-
  latheref06's call. Conditions: those written in each statement.
-/
import Derived.Test.YtepagfkkjlbipaaGreatKbc
set_option linter.unusedVariables false
set_option linter.unusedSimpArgs false
set_option maxHeartbeats 64000000
set_option maxRecDepth 100000
namespace Go.Proofs.YtepagfkkjlbipaaGreat
open Tryz
open Go.RowKit
theorem run_ixr {b k : Nat} (hk : k < 11) (w : World) : (Instr.indexAt 83 (.pointer (some ⟨b, 3, none⟩)) (.int .i64 (k : Int))).run prog w = .ok (.pointer (some ⟨b, 3 + k, none⟩)) w := by
 go_simp
 omega
theorem infU8 : (prog.info? 31).map (fun i => (i.zero, i.size, i.bytes)) = some (some (.int .u64 0), 1, 8) := by kernel_rfl
theorem infEv : (prog.info? 95).map (fun i => (i.zero, i.size, i.bytes)) = some (some (.agg #[.int .i64 0, .slice none 0 0, .int .u64 0]), 3, 40) := by kernel_rfl
theorem sizQ : (prog.info? 26).map (·.size) = some 1 := by kernel_rfl
theorem sizV : (prog.info? 32).map (·.size) = some 1 := by kernel_rfl
theorem sizEv : (prog.info? 95).map (·.size) = some 3 := by kernel_rfl
theorem u64_one (x : Int) : ∀ u ∈ [Value.int .u64 x], u.oneCell' = true := by
 intro u hu
 obtain rfl : u = .int .u64 x := by simpa using hu
 rfl
theorem tr_one {x : TrE} {v : Value} (hv : v.oneCell' = true) : ∀ u ∈ trC (x, v), u.oneCell' = true := by
 intro u hu
 unfold trC at hu
 simp only [List.mem_cons, List.not_mem_nil, or_false] at hu
 rcases hu with rfl | rfl | rfl
 ·rfl
 ·exact hv
 ·rfl
theorem far_cell {w : World} {a b : Addr} {u v : Value} (h : b ≠ a) (hc : w.cell? b = some v) : (w.setCell a u).cell? b = some v := by
 rw [World.cell?_setCell_other w a b u (fun e => h (by first | exact e | exact e.symm))]
 exact hc
theorem mdC_len {c : Int} {pl m : Value} {rs : List Int} {st : Int} {fr : List Int} {pc : Int} {an tr : Value} (hl : rs.length = 11) (hf : fr.length = 64) : (mdC c pl m rs st fr pc an tr).length = 82 := by
 unfold mdC u8C
 simp only [List.length_cons, List.length_append, List.length_map, hl, hf, List.length_nil]
section
variable {base bm bq : Nat} {X G F : Nat → Prop} {c : Int} {A : Option Addr} {n cap : Nat} {rs : List Int} {st : Int} {fr : List Int} {pc : Int} {an tr : Value} {la : List Int} {T : List TrE} {w w' : World}
theorem MdR.push {q : List (TrE × Value)} (hB : MdB w bm c (.slice A n cap) (.pointer (some ⟨bq, 0, none⟩)) rs st fr pc an tr) (h : MdR base bm bq X G F an tr la T w) (hg : RegOk rs) (hq : q.map (·.1) = T) (hqa : ∀ p ∈ q, WdsF w (fun b => b = bm ∨ F b ∨ tr.ownBlock = some b ∨ X b) p.2 p.1.args)
  {x : TrE} {v tr' : Value} (hv : WdsF w (fun b => b = bm ∨ F b ∨ tr.ownBlock = some b ∨ X b) v x.args) (R : w'.ownsRow base 95 3 tr' (T.length + 1) (q.flatMap trC ++ trC (x, v))) (Gr : w.grownBy w' tr.ownBlock) (O : ∀ k, tr'.ownBlock = some k → tr.ownBlock = some k ∨ w.heap.size ≤ k) :
  MdG base bm bq X G (fun k => G k ∨ tr'.ownBlock = some k) c A n cap rs pc la (T ++ [x]) w (w'.setCell ⟨bm, 81, none⟩ tr') := by
 have hcE : Chg (fun k => tr.ownBlock = some k) w w' := Chg.of_grown Gr (fun k e => .inl e)
 have hbe : tr.ownBlock ≠ some bm := fun e => (h.tro bm e).2.1 rfl
 have hB' : MdB w' bm c (.slice A n cap) (.pointer (some ⟨bq, 0, none⟩)) rs st fr pc an tr := ⟨hcE.blk hB.blk hbe, hB.len, hB.frl⟩
 have hb81 : Chg (fun k => k = bm) w' (w'.setCell ⟨bm, 81, none⟩ tr') := chg_setCell (b := bm) rfl tr' rfl
 have hc : Chg G w (w'.setCell ⟨bm, 81, none⟩ tr') := (hcE.mono (G := G) (fun k e => .inl (h.tro k e).1)).trans (hb81.mono (G := G) (fun k e => .inl (e ▸ h.own))) (fun k q => .inl q)
 have hne : ∀ k, tr'.ownBlock = some k → k ≠ bm ∧ ¬ F k := fun k e => (O k e).elim (fun e2 => (h.tro k e2).2) (fun e2 => ⟨by have := h.lt; omega, fun z => by have := (h.low k (h.sub k z).1).2; omega⟩)
 have hnG : ∀ k, tr'.ownBlock = some k → G k ∨ w.heap.size ≤ k := fun k e => (O k e).elim (fun e2 => .inl (h.tro k e2).1) .inr
 have hcF : Chg (fun b => b = bm ∨ F b ∨ tr.ownBlock = some b ∨ X b) w (w'.setCell ⟨bm, 81, none⟩ tr') := (hcE.mono (G := fun b => b = bm ∨ F b ∨ tr.ownBlock = some b ∨ X b) (fun k e => .inl (.inr (.inr (.inl e))))).trans (hb81.mono (G := fun b => b = bm ∨ F b ∨ tr.ownBlock = some b ∨ X b) (fun k e => .inl (.inl e))) (fun k q => .inl q)
 have hup : ∀ b, (b = bm ∨ F b ∨ tr'.ownBlock = some b ∨ X b) → (b = bm ∨ F b ∨ tr.ownBlock = some b ∨ X b) ∨ w.heap.size ≤ b := fun b z => z.elim (fun z => .inl (.inl z)) (fun z => z.elim (fun z => .inl (.inr (.inl z))) (fun z => z.elim (fun z => (O b z).elim (fun z => .inl (.inr (.inr (.inl z)))) .inr) (fun z => .inl (.inr (.inr (.inr z))))))
 obtain ⟨AA, ca, he, hca, hr⟩ := h.ans
 have hlw : Below base w (w'.setCell ⟨bm, 81, none⟩ tr') := hc.below (fun b z => (h.low b z).1) (Nat.le_trans h.ge (Nat.le_of_lt h.lt))
 refine ⟨⟨⟨st, fr, an, tr', F, hB'.put_tr tr', ⟨?_, fun b z => ⟨.inl (h.sub b z).1, (h.sub b z).2⟩, ⟨q ++ [(x, v)], ?_, by rw [List.map_append, hq]; rfl, fun p hp => ?_⟩, fun b e => ⟨.inr e, hne b e⟩, ⟨AA, ca, he, hca, hr.below hlw⟩, .inl h.own, fun b z => ?_, h.u64, fun b z => ⟨(h.xs b z).1, Nat.lt_of_lt_of_le (h.xs b z).2.1 hc.size, fun g => g.elim (h.xs b z).2.2 (fun g => (O b g).elim (fun g => (h.xs b z).2.2 (h.tro b g).1) (fun g => by have := (h.xs b z).2.1; omega))⟩⟩⟩, hg⟩, hc, fun b z => z.elim .inl (hnG b)⟩
 ·exact (h.mem.chg hcE (fun k z e => (h.tro k e).2.2 z)).chg hb81 (fun k z e => (h.sub k z).2 e)
 ·have e1 : (T ++ [x]).length = T.length + 1 := by simp
  have e2 : (q ++ [(x, v)]).flatMap trC = q.flatMap trC ++ trC (x, v) := by rw [List.flatMap_append]; simp
  rw [e1, e2]
  exact hb81.own R (fun k e => (hne k e).1)
 ·rcases List.mem_append.1 hp with hp | hp
  ·exact (hqa p hp).chg hcF (fun b z => .inl z) hup
  ·have hp : p = (x, v) := by simpa using hp
   subst hp
   exact hv.chg hcF (fun b z => .inl z) hup
 ·refine z.elim (fun z => ⟨(h.low b z).1, Nat.lt_of_lt_of_le (h.low b z).2 hc.size⟩) (fun z => ⟨?_, ?_⟩)
  ·exact (O b z).elim (fun e2 => (h.low b (h.tro b e2).1).1) (fun e2 => by have := h.ge; have := h.lt; omega)
  ·have := (own_ge R b z).2
   exact Nat.lt_of_lt_of_le this hb81.size
theorem MdM.set (h : MdM base bm bq X G c A n cap rs pc la T w) {k : Nat} (hk : k ≤ 10) {v : Int} (hv : U64 v) : Calls prog 61 #[.pointer (some ⟨bm, 0, none⟩), .int .i8 (k : Int), .int .u64 v] w fun e w' => e = .returned (.tuple #[]) ∧ MdG base bm bq X G G c A n cap (rs.set k v) pc la T w w' := by
 obtain ⟨st, fr, an, tr, F, hB, hR⟩ := h.box
 refine (md_put hB hk v).mono ?_
 rintro e w' ⟨rfl, st', hB', hc⟩
 exact ⟨rfl, ⟨⟨st', fr, an, tr, F, hB', hR.chg hc (fun b e => .inl e)⟩, by rw [List.length_set]; exact h.reg.1, fun y hy => (List.mem_or_eq_of_mem_set hy).elim (h.reg.2 y) (fun e => e ▸ hv)⟩, hc.mono (fun b e => .inl (e ▸ hR.own)), fun b z => .inl z⟩
end
section
variable {base bm bq : Nat} {X G F : Nat → Prop} {c : Int} {A : Option Addr} {n cap : Nat} {rs : List Int} {st : Int} {fr : List Int} {pc : Int} {an tr : Value} {la : List Int} {T : List TrE} {w w' : World}
theorem MdG.put_set (hB : MdB w bm c (.slice A n cap) (.pointer (some ⟨bq, 0, none⟩)) rs st fr pc an tr) (hR : MdR base bm bq X G F an tr la T w) (hg : RegOk rs) (v : Int) : MdG base bm bq X G G c A n cap rs pc la T w (w.setCell ⟨bm, 14, none⟩ (.int .i64 v)) := by
 have hc : Chg (fun b => b = bm) w (w.setCell ⟨bm, 14, none⟩ (.int .i64 v)) := chg_setCell (b := bm) rfl _ rfl
 exact ⟨⟨⟨_, _, _, _, _, hB.put_set v, hR.chg hc (fun b e => .inl e)⟩, hg⟩, hc.mono (fun b e => .inl (e ▸ hR.own)), fun b z => .inl z⟩
end
def fiveR (l : List Int) : Nat → List Int
 | 0 => l
 | k + 1 => (fiveR l k).set (k + 1) 0
section
variable {base bm bq : Nat} {X G : Nat → Prop} {c : Int} {A : Option Addr} {n cap : Nat} {rs : List Int} {pc : Int} {la : List Int} {T : List TrE} {w : World}
def CallP (base bm bq : Nat) (X G : Nat → Prop) (c : Int) (A : Option Addr) (n cap : Nat) (rs : List Int) (pc : Int) (la : List Int) (T : List TrE) (num : Int) (w : World) (e : Ending) (w' : World) : Prop :=
 (e = .returned (.bool false) ∧ w = w') ∨
 (∃ a lb G', la = a :: lb ∧ e = .returned (.bool true) ∧ MdG base bm bq X G G' c A n cap (fiveL (rs.set 0 a) 0) pc lb (T ++ [⟨num, (rs.drop 1).take (argsN num).toNat, a⟩]) w w')
theorem take_more {rs : List Int} (hl : rs.length = 11) {j : Nat} (hj : j + 1 < 11) : ((rs.drop 1).take j).map (Value.int .u64) ++ [.int .u64 (rs.getD (j + 1) 0)] = ((rs.drop 1).take (j + 1)).map (Value.int .u64) := by
 have e : rs[1 + j]? = some (rs.getD (j + 1) 0) := by
  rw [Nat.add_comm 1 j, List.getD_eq_getElem?_getD, List.getElem?_eq_getElem (by omega)]
  rfl
 rw [List.take_add_one, List.map_append, List.getElem?_drop, e]
 rfl
theorem ans_cut {B : Nat} {ad : Addr} {m ca : Nat} {a : Int} {lb : List Int} {an2 : Value} (hm : (a :: lb).length = m) (hc : (a :: lb).length ≤ ca) (he : Value.slice (if ca = 1 then some ad else some ⟨ad.block, ad.off + 1, none⟩) (m - 1) (ca - 1) = an2) (h : Reads w B 1 (some ad) (a :: lb).length ((a :: lb).map (Value.int .u64))) :
  ∃ A' c', an2 = .slice A' lb.length c' ∧ lb.length ≤ c' ∧ Reads w B 1 A' lb.length (lb.map (Value.int .u64)) := by
 simp only [List.length_cons] at hm hc
 refine ⟨_, ca - 1, by rw [← he]; congr 1; omega, by omega, ?_⟩
 have h2 := h.cut (k := 1) (cap := ca) (by simp) hc
 simpa [Addr.add] using h2
theorem md_call (h : MdM base bm bq X G c A n cap rs pc la T w) (num : Int) (hfew : T.length < 1000) : Calls prog 66 #[.pointer (some ⟨bm, 0, none⟩), .int .i64 num] w (CallP base bm bq X G c A n cap rs pc la T num w) := by
 obtain ⟨iA, hiA, hzA, hsA, hbA⟩ := info_parts infU8
 have IA := Hd (And.intro hiA (And.intro hzA (And.intro hsA hbA)))
 obtain ⟨iE, hiE, hzE, hsE, hbE⟩ := info_parts infEv
 have IE := Hd (And.intro hiE (And.intro hzE (And.intro hsE hbE)))
 obtain ⟨st, fr, an, tr, F, hB, hR⟩ := h.box
 have hrg := h.reg
 obtain ⟨AA, ca, rfl, hca, hla⟩ := hR.ans
 have HCA := Hd hca
 have HFEW := Hd hfew
 clear h hiA hzA hsA hbA hiE hzE hsE hbE hfew
 have c80 : w.cell? ⟨bm, 80, none⟩ = some (.slice AA la.length ca) := hB.cell (mdC_an hB.len hB.frl)
 have HB := Hd hB
 have HR0 := Hd hR
 have HL := Hd hla
 have HG := Hd hrg
 clear hB hR hla hrg hca
 cases la with
 | nil =>
  go_enter func66, ntmps66
  go_wp2_with fail
  go_ret
  exact .inl ⟨rfl, rfl⟩
 | cons a lb =>
  obtain ⟨ad, u, rfl, hab, hu, ca0⟩ := HL.out.at_ (k := 0) (by simp)
  obtain rfl : u = .int .u64 a := by simpa using hu.symm
  have ca0 : w.cell? ad = some (.int .u64 a) := by
   have e : ad.add 0 = ad := by cases ad; simp [Addr.add]
   rwa [e] at ca0
  have hlen : ((a :: lb).length : Int) = (lb.length : Int) + 1 := by simp
  obtain ⟨m, hm⟩ : ∃ k, (a :: lb).length = k := ⟨_, rfl⟩
  rw [hm] at c80
  have hm0 : 0 < m := by rw [← hm]; simp
  have hmz : ((m : Int) == 0) = false := by simp; omega
  have HMM := Hd hm
  clear hm hlen hu hab
  go_enter func66, ntmps66
  go_upto_region 4 with fail
  have hev := Blk.new w 95 #[.int .i64 num, .slice none 0 0, .int .u64 a]
  have hb1 : Below w.heap.size w (w.alloc (.cells #[.int .i64 num, .slice none 0 0, .int .u64 a] 95)) := (Below.refl _ _).alloc (Nat.le_refl _) _
  have hs1 : (w.alloc (.cells #[.int .i64 num, .slice none 0 0, .int .u64 a] 95)).heap.size = w.heap.size + 1 := by simp
  have hbm : bm < w.heap.size := HR0.out.lt
  have HNB := Hd (fun (q : G w.heap.size) => by have := (HR0.out.low _ q).2; omega : ¬ G w.heap.size)
  obtain ⟨b5, hb5⟩ : ∃ k, w.heap.size = k := ⟨_, rfl⟩
  have HB5 := Hd hb5
  rw [hb5] at hev hbm hs1 HNB ⊢
  have HBL := Hd hbm
  generalize w.alloc (.cells #[.int .i64 num, .slice none 0 0, .int .u64 a] 95) = w1 at hev hb1 hs1 ⊢
  have hB1 : MdB w1 bm c (.slice A n cap) (.pointer (some ⟨bq, 0, none⟩)) rs st fr pc (.slice (some ad) m ca) tr := by
   rw [← HMM.out]
   exact ⟨HB.out.blk.below hb1 HB.out.blk.lt, HB.out.len, HB.out.frl⟩
  have HB1 := Hd hB1
  have HE1 := Hd (Chg.of_below (F := fun b => b = bm) hb1)
  have HEV := Hd (And.intro hev hs1)
  replace c80 : w1.cell? ⟨bm, 80, none⟩ = some (.slice (some ad) m ca) := hB1.cell (mdC_an hB1.len hB1.frl)
  have f80 : w1.frozen? ⟨bm, 80, none⟩ = false := hB1.blk.frozen _
  have hm1 : 1 ≤ m := hm0
  clear hb5 hB1 hb1 hev ca0 hbm hs1
  go_upto_region 5 with fail
  obtain ⟨an2, han2⟩ : ∃ v, Value.slice (if ca = 1 then some ad else some ⟨ad.block, ad.off + 1, none⟩) (m - 1) (ca - 1) = v := ⟨_, rfl⟩
  rw [han2]
  have HAN := Hd han2
  clear han2
  have hB2 := HB1.out.put_an an2
  have hc2 : Chg (fun b => b = bm) w1 (w1.setCell ⟨bm, 80, none⟩ an2) := chg_setCell (b := bm) rfl _ rfl
  have hev2 := HEV.out.1.far (p := ⟨bm, 80, none⟩) (fun e => by have := HBL.out; have e : bm = b5 := e.symm; omega) an2
  have hs2 : (w1.setCell ⟨bm, 80, none⟩ an2).heap.size = b5 + 1 := by simp [World.setCell, HEV.out.2]
  generalize w1.setCell ⟨bm, 80, none⟩ an2 = w2 at hB2 hc2 hev2 hs2 ⊢
  have HW2 := Hd (show Blk w2 b5 95 #[.int .i64 num, .slice none 0 0, .int .u64 a] ∧ w2.ownsRow (b5 + 1) 31 1 (.slice none 0 0) 0 [] ∧ MdB w2 bm c (.slice A n cap) (.pointer (some ⟨bq, 0, none⟩)) rs st fr pc an2 tr ∧ Chg (fun b => b = bm) w w2 from ⟨hev2, ⟨rfl, .inl ⟨rfl, rfl⟩⟩, hB2, HE1.out.trans hc2 (fun b q => .inl q)⟩)
  clear hB2 hc2 hev2 c80 f80 HB1 HEV HE1 hs2
  have hargs := argsN_bd num
  obtain ⟨ka, hka⟩ : ∃ k : Nat, argsN num = (k : Int) := ⟨(argsN num).toNat, by omega⟩
  have HA := Hd (fun (W : World) => by have := rargs_any num W; rw [hka] at this; exact this)
  have HKA := Hd hka
  have hk5 : ka ≤ 5 := by omega
  clear hka hargs
  go_wp2_with fail
  go_loopw [6] (fun i wr => ∃ (j : Nat) (sv : Value), j ≤ ka ∧ i = .int .i64 (1 + j) ∧ Hid (Blk wr b5 95 #[.int .i64 num, sv, .int .u64 a] ∧ wr.ownsRow (b5 + 1) 31 1 sv j (((rs.drop 1).take j).map (Value.int .u64)) ∧ MdB wr bm c (.slice A n cap) (.pointer (some ⟨bq, 0, none⟩)) rs st fr pc an2 tr ∧ Chg (fun b => b = bm) w wr)) (fun i _ => (7 - intOf i).toNat)
  case atStart => exact ⟨0, .slice none 0 0, by omega, by go_num, HW2.out⟩
  case round =>
   obtain ⟨j, sv, hjk, rfl, HX⟩ := hrel
   rename World => wr
   go_wp2_with fail
   refine (HA.out _).mono ?_
   rintro e w' ⟨rfl, rfl⟩
   obtain ⟨j1, hj1⟩ : ∃ q, j + 1 = q := ⟨_, rfl⟩
   have hji : (1 : Int) + (j : Int) = (j1 : Int) := by omega
   rw [hji]
   by_cases hlt : j1 ≤ ka
   ·have HJ := Hd hj1
    have HO := Hd HX.out.2.1
    obtain ⟨A5, c5, rfl, _, _⟩ := ReadsF.of_own (F := fun _ => False) HO.out (fun _ _ q => q)
    go_upto_region 8 with fail
    refine wp_region_E (fun w' => w'.cell? ⟨bm, 3 + j1, none⟩ = some (.int .u64 (rs.getD j1 0))) (fun w' => w'.cell? ⟨b5, 1, none⟩ = some (.slice A5 j c5)) [12] (by kernel_rfl) ?_
    have HT := Hd (show wr.drew.cell? ⟨bm, 3 + j1, none⟩ = some (.int .u64 (rs.getD j1 0)) from HX.out.2.2.1.cell (mdC_reg HX.out.2.2.1.len (by omega)))
    have HS := Hd (show wr.drew.cell? ⟨b5, 1, none⟩ = some (.slice A5 j c5) from HX.out.1.cell 1)
    have HEB := Hd (show Blk wr.drew b5 95 #[.int .i64 num, .slice A5 j c5, .int .u64 a] from HX.out.1)
    replace HO := Hd (show wr.drew.ownsRow (b5 + 1) 31 1 (.slice A5 j c5) j (((rs.drop 1).take j).map (Value.int .u64)) from HO.out)
    have HMB := Hd (show MdB wr.drew bm c (.slice A n cap) (.pointer (some ⟨bq, 0, none⟩)) rs st fr pc an2 tr ∧ Chg (fun b => b = bm) w wr.drew from ⟨⟨HX.out.2.2.1.blk, HX.out.2.2.1.len, HX.out.2.2.1.frl⟩, HX.out.2.2.2.drew⟩)
    have HLT := Hd (show bm < wr.drew.heap.size ∧ b5 < wr.drew.heap.size from ⟨HMB.out.1.blk.lt, HEB.out.lt⟩)
    generalize wr.drew = Wd at HT HS HEB HO HMB HLT ⊢
    clear HX hji
    refine ef 0 ⟨b5, 0, none⟩ ⟨b5, 1, none⟩ (bS HT HS) ?_
    refine el true 1 ⟨b5, 1, none⟩ (.slice A5 j c5) underlying26 (fun w hS => (hS.2 rfl)) (bS HT HS) ?_
    refine em 2 (.pointer (some ⟨bm, 0, none⟩)) (bS HT HS) ?_
    refine em 3 (.int .i64 (j1 : Int)) (bS HT HS) ?_
    refine ez 4 ⟨bm, 0, none⟩ (bS HT HS) ?_
    refine ef 5 ⟨bm, 0, none⟩ ⟨bm, 3, none⟩ (bS HT HS) ?_
    refine ef 6 ⟨bm, 3, none⟩ ⟨bm, 3, none⟩ (bS HT HS) ?_
    refine ex 7 (.pointer (some ⟨bm, 3, none⟩)) (.int .i64 (j1 : Int)) (.pointer (some ⟨bm, 3 + j1, none⟩)) (run_ixr (by omega)) (bS HT HS) ?_
    refine el false 8 ⟨bm, 3 + j1, none⟩ (.int .u64 (rs.getD j1 0)) underlying31 (fun w hS => hS.1) (bS HT HS) ?_
    refine E_one 9 (by kernel_rfl) (StepE.slice_one 9 (some 45) _ 31 _ iA _ (.int .u64 (rs.getD j1 0)) rfl (by rfl) underlying26 IA.out.1 IA.out.2.1 (by rw [IA.out.2.2.1]; decide) (by rw [IA.out.2.2.1]; decide) (by rfl) (by rw [IA.out.2.2.1]; rfl) ?_)
    intro wa ga hga Ba La
    have HBA := Hd Ba
    have HLA := Hd La
    replace HT := Hd ((La.cell (by exact HLT.out.1)).trans HT.out)
    replace HS := Hd ((La.cell (by exact HLT.out.2)).trans HS.out)
    clear Ba La
    refine ⟨.both HT.out HS.out, ?_⟩
    simp only [pt, pn, sL]
    refine E_one 10 (by kernel_rfl) (StepE.append 10 (some 46) 26 31 _ _ (b5 + 1) iA _ 1 8 rfl (by rfl) underlying26 IA.out.1 IA.out.2.1 IA.out.2.2.1 IA.out.2.2.2 rfl (by omega) (.slice A5 j c5) j (((rs.drop 1).take j).map (Value.int .u64)) (by rfl) (own_block HO.out (fun k hk => HLA.out.block k (own_ge HO.out k hk).2)) _ (some ⟨ga, 0, none⟩) 1 1 [.int .u64 (rs.getD j1 0)] (by rfl) (reads_blk HBA.out 1 1 rfl) (u64_one _) (by unfold maxLen; omega) (by omega) (Nat.le_trans HLT.out.2 HLA.out.size) ?_)
    intro es2 wb R2 G2 O2
    have HR2 := Hd R2
    have HG2 := Hd ((only_of_below HLA.out (Value.ownBlock (.slice A5 j c5))).trans G2)
    replace HT := Hd ((World.cell?_of_block (a := ⟨bm, 3 + j1, none⟩) (G2.block bm (Nat.lt_of_lt_of_le HLT.out.1 HLA.out.size) (fun e => by have := (own_ge HO.out _ e.symm).1; have := HBL.out; omega))).trans HT.out)
    replace HS := Hd ((World.cell?_of_block (a := ⟨b5, 1, none⟩) (G2.block b5 (Nat.lt_of_lt_of_le HLT.out.2 HLA.out.size) (fun e => by have := (own_ge HO.out _ e.symm).1; omega))).trans HS.out)
    clear R2 G2 O2
    refine ⟨.both HT.out HS.out, ?_⟩
    simp only [pt, pn, sL]
    refine ef 11 ⟨b5, 0, none⟩ ⟨b5, 1, none⟩ (bS HT HS) ?_
    refine E_one 12 (by kernel_rfl) (StepE.store_at 12 26 _ _ ⟨b5, 1, none⟩ es2 _ rfl (by rfl) (by rfl) (by rfl) (run_storeVar_one 26 b5 1 95 _ _ (HEB.out.grown HG2.out (fun e => by have := (own_ge HO.out _ e.symm).1; omega)) (by simp) sizQ (own_cells HR2.out) (own_one HR2.out)) (.after (far_cell (by have := HBL.out; intro e; injection e with e; omega) HT.out) (by kernel_rfl)) ?_)
    simp only [pt, pn, sL]
    refine wpAnyE_done (by kernel_rfl) ?_ _
    have HN := Hd (show Blk (wb.setCell ⟨b5, 1, none⟩ es2) b5 95 #[.int .i64 num, es2, .int .u64 a] ∧ (wb.setCell ⟨b5, 1, none⟩ es2).ownsRow (b5 + 1) 31 1 es2 j1 (((rs.drop 1).take j1).map (Value.int .u64)) ∧ MdB (wb.setCell ⟨b5, 1, none⟩ es2) bm c (.slice A n cap) (.pointer (some ⟨bq, 0, none⟩)) rs st fr pc an2 tr ∧ Chg (fun b => b = bm) w (wb.setCell ⟨b5, 1, none⟩ es2) from by
     have hs : Chg (fun b => b = b5) wb (wb.setCell ⟨b5, 1, none⟩ es2) := chg_setCell (b := b5) rfl _ rfl
     have hg : ∀ k, (Value.slice A5 j c5).ownBlock = some k → b5 + 1 ≤ k := fun k e => (own_ge HO.out k e).1
     have hc1 : Chg (fun b => b5 + 1 ≤ b) Wd wb := Chg.of_grown HG2.out (fun k e => .inl (hg k e))
     have hc2 : Chg (fun b => b5 ≤ b) Wd (wb.setCell ⟨b5, 1, none⟩ es2) := (hc1.mono (G := fun b => b5 ≤ b) (fun b q => .inl (by omega))).trans (hs.mono (G := fun b => b5 ≤ b) (fun b q => .inl (by omega))) (fun b q => .inl q)
     refine ⟨?_, ?_, ⟨hc2.blk HMB.out.1.blk (by have := HBL.out; omega), HMB.out.1.len, HMB.out.1.frl⟩, (HMB.out.2.trans (hc2.mono (G := fun b => b = bm ∨ b5 ≤ b) (fun b q => .inl (.inr q))) (fun b q => q.elim .inl (fun q => .inr (by have := HB5.out; omega))))⟩
     ·have := (hc1.blk HEB.out (by omega)).set_ 1 es2
      simpa using this
     ·have R := HR2.out
      rw [← HJ.out, ← take_more HG.out.1 (by have := HJ.out; omega)]
      have e : j + 1 = j + 1 := rfl
      refine hs.own ?_ (fun k e => by have := (own_ge R k e).1; omega)
      rw [HJ.out]
      rw [← HJ.out] at R
      rw [HJ.out] at R
      exact R)
    have HES := Hd (own_one HR2.out)
    generalize wb.setCell ⟨b5, 1, none⟩ es2 = ws at HN ⊢
    clear HR2 HG2 HBA HLA HT HS HEB HO HMB HLT
    go_wp2_with fail
    go_roundw
    case measure => simp [intOf]; omega
    case rel => exact ⟨j1, es2, hlt, by go_num, HN.out⟩
   ·obtain rfl : j = ka := by omega
    have hR2 : MdR base bm bq X G F an2 tr lb T wr := by
     have h1 := HR0.out.chg HX.out.2.2.2 (fun b e => .inl e)
     refine { h1 with ans := ?_, u64 := fun v hv => h1.u64 v (List.mem_cons_of_mem a hv) }
     obtain ⟨A3, c3, e3, _, r3⟩ := h1.ans
     injection e3 with e3 e4 e5
     subst e3 e5
     exact ans_cut HMM.out HCA.out HAN.out r3
    have HR := Hd (And.intro HX.out.2.2.1 hR2)
    have HEB := Hd HX.out.1
    have HO := Hd HX.out.2.1
    have HCH := Hd (show Chg G w wr.drew from (HX.out.2.2.2.mono (fun b e => .inl (e ▸ HR0.out.own))).drew)
    have HJ := Hd hj1
    have HSV := Hd (own_one HO.out)
    have HG5 := Hd (fun b (z : G b) => (by have := (HR0.out.low b z).2; have := HB5.out; omega : b < b5))
    have HAU := Hd (HR0.out.u64 a List.mem_cons_self)
    have HX5 := Hd (fun b (z : X b) => (by have := (HR0.out.xs b z).2.1; have := HB5.out; omega : b < b5))
    clear hR2 HX HR0 HL HB HMM HAN hji
    go_upto_region 9 with fail
    replace HR := Hd (show MdB wr.drew bm c (.slice A n cap) (.pointer (some ⟨bq, 0, none⟩)) rs st fr pc an2 tr ∧ MdR base bm bq X G F an2 tr lb T wr.drew from ⟨⟨HR.out.1.blk, HR.out.1.len, HR.out.1.frl⟩, HR.out.2.chg (H := fun _ => False) (Chg.refl _ wr).drew (fun _ q => q.elim)⟩)
    obtain ⟨q, hq1, hq2, hq3⟩ := HR.out.2.row
    have HQ := Hd (And.intro hq1 (And.intro hq2 hq3))
    obtain ⟨AT, cT, rfl, _, _⟩ := ReadsF.of_own (F := fun _ => False) hq1 (fun _ _ q => q)
    clear hq1 hq2 hq3
    obtain ⟨x, hx⟩ : ∃ x : TrE, x = ⟨num, (rs.drop 1).take j, a⟩ := ⟨_, rfl⟩
    have HXX := Hd hx
    have HT := Hd (show Blk wr.drew b5 95 (trC (x, sv)).toArray by rw [hx]; exact HEB.out)
    have HS := Hd (show wr.drew.cell? ⟨bm, 81, none⟩ = some (.slice AT T.length cT) from HR.out.1.cell (mdC_tr HR.out.1.len HR.out.1.frl))
    have HWV := Hd (show WdsF wr.drew (fun b => b = bm ∨ F b ∨ (Value.slice AT T.length cT).ownBlock = some b ∨ X b) sv x.args by
     have hO : wr.drew.ownsRow (b5 + 1) 31 1 sv j (((rs.drop 1).take j).map (Value.int .u64)) := HO.out
     obtain ⟨A7, c7, e7, h7, r7⟩ := ReadsF.of_own (F := fun b => b = bm ∨ F b ∨ (Value.slice AT T.length cT).ownBlock = some b ∨ X b) hO (fun k e z => by
      have h1 := (own_ge hO k e).1
      rcases z with z | z | z | z
      ·have := HBL.out; omega
      ·have := HG5.out k (HR.out.2.sub k z).1; omega
      ·have := HG5.out k (HR.out.2.tro k z).1; omega
      ·have := HX5.out k z; omega)
     have hl : ((rs.drop 1).take j).length = j := by have := HG.out.1; simp; omega
     refine ⟨A7, c7, ?_, ?_, ?_, ?_⟩
     ·rw [hx]; dsimp only; rw [hl]; exact e7
     ·rw [hx]; dsimp only; rw [hl]; exact h7
     ·rw [hx]; dsimp only; rw [hl]; exact r7
     ·rw [hx]; dsimp only; rw [hl]; omega)
    clear hx
    refine wp_region_E (fun w' => Blk w' b5 95 (trC (x, sv)).toArray) (fun w' => w'.cell? ⟨bm, 81, none⟩ = some (.slice AT T.length cT)) [10] (by kernel_rfl) ?_
    generalize wr.drew = Wd at HR HQ HT HS HWV HCH ⊢
    have HT0 := Hd HT.out
    clear HEB HO
    refine em 0 (.pointer (some ⟨bm, 0, none⟩)) (bS HT HS) ?_
    refine em 1 (.pointer (some ⟨bm, 0, none⟩)) (bS HT HS) ?_
    refine ez 2 ⟨bm, 0, none⟩ (bS HT HS) ?_
    refine ef 3 ⟨bm, 0, none⟩ ⟨bm, 81, none⟩ (bS HT HS) ?_
    refine el true 4 ⟨bm, 81, none⟩ (.slice AT T.length cT) underlying32 (fun w hS => (hS.2 rfl)) (bS HT HS) ?_
    refine eL false 5 ⟨b5, 0, none⟩ (trC (x, sv)) (fun w hS => blk_list hS.1) underlying95 sizEv (bS HT HS) ?_
    refine E_one 6 (by kernel_rfl) (StepE.slice_one 6 (some 54) _ 95 _ iE _ (.agg (trC (x, sv)).toArray) rfl (by rfl) underlying32 IE.out.1 IE.out.2.1 (by rw [IE.out.2.2.1]; decide) (by rw [IE.out.2.2.1]; decide) (by rfl) (by rw [IE.out.2.2.1]; rfl) ?_)
    intro wa ga hga Ba La
    have HBA := Hd Ba
    have HLA := Hd La
    replace HT := Hd (HT.out.below La HT.out.lt)
    replace HS := Hd ((La.cell (by exact HR.out.2.lt)).trans HS.out)
    clear Ba La
    refine ⟨.both HT.out HS.out, ?_⟩
    simp only [pt, pn, sL]
    refine E_one 7 (by kernel_rfl) (StepE.append 7 (some 55) 32 95 _ _ base iE _ 3 40 rfl (by rfl) underlying32 IE.out.1 IE.out.2.1 IE.out.2.2.1 IE.out.2.2.2 rfl (by omega) (.slice AT T.length cT) T.length (q.flatMap trC) (by rfl) (own_block HQ.out.1 (fun k hk => HLA.out.block k (own_ge HQ.out.1 k hk).2)) _ (some ⟨ga, 0, none⟩) 1 1 (trC (x, sv)) (by rfl) (reads_blk HBA.out 1 3 rfl) (tr_one HSV.out) (by have := HFEW.out; unfold maxLen; omega) (by have := HFEW.out; omega) (Nat.le_trans (Nat.le_trans HR.out.2.ge (Nat.le_of_lt HR.out.2.lt)) HLA.out.size) ?_)
    intro es2 wb R2 G2 O2
    have HR2 := Hd R2
    have HG2 := Hd ((only_of_below HLA.out (Value.ownBlock (.slice AT T.length cT))).trans G2)
    have HO2 := Hd (fun k (hk : es2.ownBlock = some k) => (O2.elim (fun e => .inl (e ▸ hk)) (fun e => .inr (by rw [e] at hk; injection hk with hk; rw [← hk]; exact HLA.out.size)) : (Value.slice AT T.length cT).ownBlock = some k ∨ Wd.heap.size ≤ k))
    replace HT := Hd (HT.out.grown G2 (fun e => HNB.out (HR.out.2.tro _ e.symm).1))
    replace HS := Hd ((World.cell?_of_block (a := ⟨bm, 81, none⟩) (G2.block bm (Nat.lt_of_lt_of_le HR.out.2.lt HLA.out.size) (fun e => (HR.out.2.tro _ e.symm).2.1 rfl))).trans HS.out)
    clear R2 G2 O2
    refine ⟨.both HT.out HS.out, ?_⟩
    simp only [pt, pn, sL]
    refine ez 8 ⟨bm, 0, none⟩ (bS HT HS) ?_
    refine ef 9 ⟨bm, 0, none⟩ ⟨bm, 81, none⟩ (bS HT HS) ?_
    refine E_one 10 (by kernel_rfl) (StepE.store_at 10 32 _ _ ⟨bm, 81, none⟩ es2 _ rfl (by rfl) (by rfl) (by rfl) (run_storeVar_one 32 bm 81 88 _ _ (HR.out.1.blk.grown HG2.out (fun e => (HR.out.2.tro _ e.symm).2.1 rfl)) (by rw [List.size_toArray, mdC_len HR.out.1.len HR.out.1.frl]; decide) sizV (own_cells HR2.out) (own_one HR2.out)) (.after (HT.out.far (fun e => HNB.out (by have := HR.out.2.own; exact e ▸ this)) _) (by kernel_rfl)) ?_)
    simp only [pt, pn, sL]
    refine wpAnyE_done (by kernel_rfl) ?_ _
    have hk := MdR.push HR.out.1 HR.out.2 HG.out HQ.out.2.1 HQ.out.2.2 HWV.out HR2.out HG2.out HO2.out
    have hev : Blk (wb.setCell ⟨bm, 81, none⟩ es2) b5 95 (trC (x, sv)).toArray := hk.chg.blk HT0.out HNB.out
    have HM := Hd (show MdG base bm bq X G _ c A n cap rs pc lb (T ++ [x]) w (wb.setCell ⟨bm, 81, none⟩ es2) from ⟨hk.at_, HCH.out.trans hk.chg (fun b z => .inl z), fun b z => (hk.new b z).imp id (fun z => Nat.le_trans HCH.out.size z)⟩)
    have c2 : (wb.setCell ⟨bm, 81, none⟩ es2).cell? ⟨b5, 2, none⟩ = some (.int .u64 a) := by
     have := hev.cell 2
     rw [HXX.out] at this
     exact this
    clear hk hev
    generalize wb.setCell ⟨bm, 81, none⟩ es2 = w5 at HM c2 ⊢
    clear HR HQ HT HS HWV HCH HT0 HR2 HG2 HO2 HBA HLA
    go_wp2_with fail
    refine (HM.out.at_.set (k := 0) (by omega) HAU.out).mono ?_
    rintro e w6 ⟨rfl, hm6⟩
    have HM6 := Hd (HM.out.trans hm6)
    clear hm6 HM c2
    go_wp2_with fail
    go_loopw [7] (fun i wr => ∃ j : Nat, j ≤ 5 ∧ i = .int .i8 ((j : Int) + 1) ∧ ∃ G', Hid (MdG base bm bq X G G' c A n cap (fiveR (rs.set 0 a) j) pc lb (T ++ [x]) w wr)) (fun i _ => 5 - ((intOf i).toNat - 1))
    case atStart => exact ⟨0, by omega, rfl, _, HM6.out⟩
    case round =>
     obtain ⟨i, hi, rfl, G', HMR⟩ := hrel
     rename World => wv
     by_cases hlt : i < 5
     ·obtain ⟨i1, hi1⟩ : ∃ q, i + 1 = q := ⟨_, rfl⟩
      have hii : (i : Int) + 1 = (i1 : Int) := by omega
      have HI1 := Hd hi1
      have h5 : i1 ≤ 5 := by omega
      have h1 : 1 ≤ i1 := by omega
      rw [hii]
      clear hi1 hii hi hlt
      go_wp2_with fail
      refine (HMR.out.at_.set (k := i1) (by omega) (by unfold U64; omega)).mono ?_
      rintro e w7 ⟨rfl, hm7⟩
      have HM7 := Hd (HMR.out.trans hm7)
      clear hm7
      obtain ⟨st7, fr7, an7, tr7, F7, hB7, hR7⟩ := HM7.out.at_.box
      have c14 : w7.cell? ⟨bm, 14, none⟩ = some (.int .i64 st7) := hB7.cell (mdC_set hB7.len)
      have f14 := hB7.blk.frozen 14
      have HBR := Hd (And.intro hB7 hR7)
      clear hB7 hR7
      go_upto_region 15 with fail
      go_region_with fail
      all_goals
       go_wp2_with fail
       go_roundw
       case measure => simp [intOf]; have := HI1.out; omega
       case rel => exact ⟨i1, h5, by go_num, G', by
        have h8 := fun v => HM7.out.trans (MdG.put_set HBR.out.1 HBR.out.2 HM7.out.at_.reg v)
        have h9 := fun v => (h8 v).trans ((h8 v).at_.below ((Below.refl _ _).drew))
        have e : fiveR (rs.set 0 a) i1 = (fiveR (rs.set 0 a) i).set i1 0 := by rw [← HI1.out]; rfl
        rw [e]
        exact Hd (h9 _)⟩
     ·obtain rfl : i = 5 := by omega
      go_wp2
      go_ret
      refine .inr ⟨a, lb, G', rfl, rfl, ?_⟩
      have e : x = ⟨num, (rs.drop 1).take (argsN num).toNat, a⟩ := by rw [HXX.out, HKA.out, Int.toNat_natCast]
      rw [← e]
      exact HMR.out
end
end Go.Proofs.YtepagfkkjlbipaaGreat
