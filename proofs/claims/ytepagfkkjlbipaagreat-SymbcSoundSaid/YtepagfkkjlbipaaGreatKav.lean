/-
  Parts of the proof of SymbcSound. Conditions: those written in each statement.
-/
import Derived.Test.YtepagfkkjlbipaaGreatKau
set_option linter.unusedVariables false
set_option linter.unusedSimpArgs false
set_option maxHeartbeats 64000000
set_option maxRecDepth 100000
namespace Go.Proofs.YtepagfkkjlbipaaGreat
open Tryz
section
open Go.RowKit
section
variable {P : Program} {ops : Array Oper} {Q : Exit → Act → World → Prop} {md : Region.Mode} {T S : World → Prop} {late : List Nat} {fuel : Nat} {listed : Array Bool} {a : Act} {w : World}
end
theorem addr_add (b k i : Nat) : (⟨b, k, none⟩ : Addr).add i = ⟨b, k + i, none⟩ := by
 unfold Addr.add
 split
 ·rename_i h; subst h; rfl
 ·rfl
theorem run_at11 (b : Nat) {i : Int} {d : Nat} (hi : i = (d : Int)) (hd : d < 11) (w : World) : (Instr.indexAt 57 (.pointer (some ⟨b, 1, none⟩)) (.int .i8 i)).run prog w = .ok (.pointer (some ⟨b, 1 + d, none⟩)) w := by
 subst hi
 go_simp
 intro h
 omega
def MT (b g : Nat) (regs : List Int) (w : World) : Prop := w.cell? ⟨b, 0, none⟩ = some (.pointer (some ⟨g, 0, none⟩)) ∧ ∀ d, d < 11 → w.cell? ⟨b, 1 + d, none⟩ = some (.int .i64 (regs.getD d 0))
theorem MA.mt {base g b : Nat} {F G : Nat → Prop} {m : SM} {ex : ExD} {w : World} (h : MA base g b F G m ex w) : MT b g m.regs w := ⟨h.cp, fun d hd => h.creg hd⟩
theorem MA.evs {base g b : Nat} {F G : Nat → Prop} {m : SM} {ex : ExD} {w : World} (h : MA base g b F G m ex w) : ∃ A c, w.cell? ⟨b, 12, none⟩ = some (.slice A m.evs.length c) ∧ EvsAt w (fun _ => False) (.slice A m.evs.length c) m.evs := by
 obtain ⟨es, q, hes, _, hown, hq, hqw, _⟩ := h.ces
 obtain ⟨A, c, rfl, hc, hR⟩ := ReadsF.of_own (F := fun _ => False) hown (fun _ _ q => q)
 exact ⟨A, c, hes, A, c, q, rfl, hc, hq, hR, fun p hp => ⟨(hqw p hp).1, (hqw p hp).2.chg (H := fun _ => False) (Chg.refl _ w) (fun _ q => q.elim) (fun _ q => q.elim)⟩⟩
/-! ### Brings -/
def brT (l : List EvD) (k : Nat) : Nat := bringsN (l.take k)
theorem brT_succ {l : List EvD} {k : Nat} {x : EvD} (hx : l[k]? = some x) : brT l (k + 1) = if bringB x then brT l k + 1 else brT l k := by
 unfold brT bringsN
 rw [List.take_add_one, hx, List.filter_append, List.length_append]
 simp only [Option.toList_some, List.filter_cons, List.filter_nil]
 cases bringB x <;> simp
theorem brT_le (l : List EvD) (k : Nat) : brT l k ≤ k := by
 unfold brT bringsN
 refine Nat.le_trans (List.length_filter_le _ _) ?_
 rw [List.length_take]
 omega
theorem sizA : (prog.info? 72).map (·.size) = some 6 := by kernel_rfl
theorem EvD.one {x : EvD} {v : Value} (hv : v.oneCell' = true) : ∀ u ∈ evC (x, v), u.oneCell' = true := by
 intro u hu
 unfold evC at hu
 simp only [List.mem_cons, List.not_mem_nil, or_false] at hu
 rcases hu with rfl | rfl | rfl | rfl | rfl | rfl <;> first | rfl | exact hv
theorem brings_any (A : Option Addr) (n c : Nat) (l : List EvD) (w : World) (h : EvsAt w (fun _ => False) (.slice A n c) l) (hn : n ≤ 64) :
  Calls prog 24 #[.slice A n c] w fun e w' => e = .returned (.int .i64 (bringsN l : Int)) ∧ Below w.heap.size w w' := by
 have hl : l.length = n := by
  obtain ⟨A', c', h1, _⟩ := h.form
  injection h1 with _ h1
  exact h1.symm
 have HL := Hd hl
 have HE := Hd h
 clear h hl
 go_enter func24, ntmps24
 go_wp2
 go_loopw [2, 7] (fun v i wr => ∃ k : Nat, k ≤ n ∧ i = .int .i64 k ∧ v = .int .i64 (brT l k : Int) ∧ Below w.heap.size w wr) (fun _ i _ => n - (intOf i).toNat)
 case atStart => exact ⟨0, by omega, rfl, rfl, Below.refl _ _⟩
 case round =>
  obtain ⟨k, hk, rfl, rfl, hb⟩ := hrel
  have HB := Hd hb
  clear hb
  by_cases hlt : k < n
  ·obtain ⟨ad, x, v, rfl, hab, hx, hxw, hnv, hcell⟩ := (HE.out.chg (G := fun _ => False) (Chg.of_below HB.out) (fun _ q => .inl q) (fun _ q => .inl q)).at_ hlt
   obtain ⟨A', c', rfl⟩ := hnv.form
   have HX := Hd hx
   have HC := Hd hcell
   have hsz := HB.out.size
   have hbt := brT_le l k
   obtain ⟨t, ht⟩ : ∃ t, brT l k = t := ⟨_, rfl⟩
   rw [ht] at hbt ⊢
   have HT := Hd ht
   clear hx hcell hxw hnv ht
   go_upto_region 4 with (first
    | (refine wpList_load_at rfl 72 (.tmp 9) rfl (ad.add (k * 6)) (by rfl) (evC (x, .slice A' x.args.length c')) _ HC.out underlying72 rfl sizA ?_)
    | (refine wpList_store_new rfl 72 (.tmp 4) (.tmp 10) rfl _ (evC (x, .slice A' x.args.length c')) (.agg (evC (x, .slice A' x.args.length c')).toArray) (by rfl) (by rfl) rfl sizA (by rfl) (EvD.one rfl) ?_
       intro w4 X4 L4 S4
       have HX4 := Hd X4
       have HB4 := Hd (HB.out.trans (L4.mono hsz))
       clear X4 L4 S4)
    | fail)
   have b0 : w4.cell? ⟨wr.heap.size, 0, none⟩ = some (.int .i8 x.kind) := HX4.out.cell 0
   obtain ⟨kd, hkd⟩ : ∃ v, x.kind = v := ⟨_, rfl⟩
   rw [hkd] at b0
   have HKD := Hd hkd
   clear hkd
   cases h0 : (kd != 0)
   ·have HS := Hd (show brT l (k + 1) = t + 1 by rw [brT_succ HX.out, ← HT.out, if_pos (by unfold bringB; rw [HKD.out]; simp at h0; rw [h0]; rfl)])
    go_wp2
    go_roundw
    case measure => simp [intOf]; omega
    case rel => exact ⟨k + 1, by omega, by go_num, by rw [HS.out]; go_num, HB4.out⟩
   ·cases h2 : (kd != 2)
    ·have HS := Hd (show brT l (k + 1) = t + 1 by rw [brT_succ HX.out, ← HT.out, if_pos (by unfold bringB; rw [HKD.out]; simp at h2; rw [h2]; rfl)])
     go_wp2
     go_roundw
     case measure => simp [intOf]; omega
     case rel => exact ⟨k + 1, by omega, by go_num, by rw [HS.out]; go_num, HB4.out⟩
    ·have HS := Hd (show brT l (k + 1) = t by rw [brT_succ HX.out, ← HT.out, if_neg (by unfold bringB; rw [HKD.out]; simp at h0 h2 ⊢; exact ⟨h0, h2⟩)])
     go_wp2
     go_roundw
     case measure => simp [intOf]; omega
     case rel => exact ⟨k + 1, by omega, by go_num, by rw [HS.out], HB4.out⟩
  ·obtain rfl : k = n := by omega
   have HS := Hd (show brT l k = bringsN l by unfold brT; rw [List.take_of_length_le (by rw [HL.out]; exact Nat.le_refl _)])
   go_wp2
   go_ret
   exact ⟨by rw [HS.out]; rfl, HB.out⟩
end
section
open Go.RowKit
def rgC (l : List Int) : List Value := l.map (Value.int .i64)
def eachK (st : PS → Nat → RS) (p : PS) : Nat → PS × List Int × Int
 | 0 => (p, [], 0)
 | k + 1 => let r := eachK st p k; if r.2.2 = 0 then let s := st r.1 k; (s.1, r.2.1 ++ [s.2.1], s.2.2) else r
def eachV (st : PS → Nat → RS) (p : PS) : PS × List Int × Int := let r := eachK st p 11; if r.2.2 = 0 then r else (r.1, zeroRg, r.2.2)
theorem eachK_succ {st : PS → Nat → RS} {p : PS} {k : Nat} (h : (eachK st p k).2.2 = 0) : eachK st p (k + 1) = ((st (eachK st p k).1 k).1, (eachK st p k).2.1 ++ [(st (eachK st p k).1 k).2.1], (st (eachK st p k).1 k).2.2) := by
 rw [eachK]
 dsimp only
 rw [if_pos h]
theorem eachK_len {st : PS → Nat → RS} {p : PS} : ∀ {k : Nat}, (eachK st p k).2.2 = 0 → (eachK st p k).2.1.length = k
 | 0, _ => rfl
 | k + 1, h => by
  by_cases h0 : (eachK st p k).2.2 = 0
  ·rw [eachK_succ h0]
   simp [eachK_len h0]
  ·rw [eachK] at h
   dsimp only at h
   rw [if_neg h0] at h
   exact absurd h h0
theorem eachK_bad {st : PS → Nat → RS} {p : PS} {k j : Nat} (h : (eachK st p k).2.2 ≠ 0) (hj : k ≤ j) : eachK st p j = eachK st p k := by
 obtain ⟨d, rfl⟩ : ∃ d, j = k + d := ⟨j - k, by omega⟩
 induction d with
 | zero => rfl
 | succ d ih =>
  rw [← Nat.add_assoc, eachK]
  dsimp only
  rw [ih (by omega), if_neg h]
theorem eachV_len (st : PS → Nat → RS) (p : PS) : ((eachV st p).2.1.map (Value.int .i64)).length = 11 := by
 rw [List.length_map]
 unfold eachV
 dsimp only
 split
 ·rename_i h; exact eachK_len h
 ·rfl
def outC (l : List Int) : List Value := rgC (l ++ List.replicate (11 - l.length) 0)
theorem outC_len {l : List Int} (h : l.length ≤ 11) : (outC l).length = 11 := by unfold outC rgC; simp; omega
theorem outC_set {l : List Int} (h : l.length < 11) (n : Int) : (outC l).set l.length (.int .i64 n) = outC (l ++ [n]) := by
 unfold outC rgC
 rw [List.map_append, List.map_append, List.set_append_right _ _ (by simp)]
 obtain ⟨d, hd⟩ : ∃ d, 11 - l.length = d + 1 := ⟨10 - l.length, by omega⟩
 rw [hd, List.length_append, show 11 - (l.length + [n].length) = d by simp; omega]
 simp [List.replicate_succ]
theorem outC_full {l : List Int} (h : l.length = 11) : outC l = rgC l := by unfold outC; simp [h]
theorem rgC_one (l : List Int) : ∀ u ∈ rgC l, u.oneCell' = true := by
 intro u hu
 obtain ⟨_, _, rfl⟩ := List.mem_map.1 hu
 rfl
theorem sizR : (prog.info? 57).map (·.size) = some 11 := by kernel_rfl
theorem zeroR : ∀ w : World, (zeroValue 57).run prog w = .ok (.agg (rgC zeroRg).toArray) w := fun w => by kernel_rfl
theorem build_zr (w : World) : (Instr.build 57 #[]).run prog w = .ok (.agg (rgC zeroRg).toArray) w := by kernel_rfl
section
variable {base g : Nat} {F : Nat → Prop} {p : PS} {w : World}
theorem PG.own {F1 : Nat → Prop} {p1 : PS} {w1 w2 : World} {b : Nat} (h : PG base g F w F1 p1 w1) (hb : ¬ F1 b) (hw : w.heap.size ≤ b) (hc : Chg (fun k => k = b) w1 w2) : PG base g F w F1 p1 w2 :=
 ⟨h.pool.chg hc (fun k q e => hb (e ▸ q)), ⟨hc.os.trans h.chg.os, hc.tape.trans h.chg.tape, hc.output.trans h.chg.output, Nat.le_trans h.chg.size hc.size, fun k hk hn => (hc.block k (Nat.lt_of_lt_of_le hk h.chg.size) (by omega)).trans (h.chg.block k hk hn)⟩, h.new⟩
theorem outC_at {l : List Int} (h : l.length < 11) : (outC l)[l.length]? = some (.int .i64 0) := by
 unfold outC rgC
 rw [List.map_append, List.getElem?_append_right (by simp), List.length_map, Nat.sub_self]
 obtain ⟨d, hd⟩ : ∃ d, 11 - l.length = d + 1 := ⟨10 - l.length, by omega⟩
 rw [hd]
 rfl
def EachP (base g : Nat) (F : Nat → Prop) (w : World) (r : PS × List Int × Int) (e : Ending) (w' : World) : Prop := e = .returned (.tuple #[.agg (rgC r.2.1).toArray, .int .i64 r.2.2]) ∧ ∃ F', PG base g F w F' r.1 w'
theorem each_any (h : PoolAt w base F g p) (hbase : base ≤ w.heap.size) (f : Nat) (caps : Array Value) (he : EntersB f) (st : PS → Nat → RS)
  (H : ∀ (i : Nat), i < 11 → ∀ (W : World) (F1 : Nat → Prop) (p1 : PS), PG base g F w F1 p1 W → base ≤ W.heap.size → Calls prog f (#[.int .i64 (i : Int)] ++ caps) W (RetP base g F1 W (st p1 i))) :
  Calls prog 34 #[.func (.func f) #[] caps] w (EachP base g F w (eachV st p)) := by
 have he' : ∀ args w, (callFunc f args).run prog w = .ok (.enter f args) w := he
 have hb0 : Below w.heap.size w (w.alloc (.cells (rgC zeroRg).toArray 57)) := (Below.refl _ w).alloc (Nat.le_refl _) _
 have HP := Hd (PG.of_below h hb0)
 have HB := Hd (show Blk (w.alloc (.cells (rgC zeroRg).toArray 57)) w.heap.size 57 (outC []).toArray from Blk.new w 57 (rgC zeroRg).toArray)
 have HNF := Hd (fun q => by have := (h.fb _ q).2; omega : ¬ F w.heap.size)
 have HH := Hd H
 have HBS := Hd hbase
 have zr := zeroR
 clear h H hb0 hbase he
 go_enter func34, ntmps34
 go_wp2
 obtain ⟨bx, hbx⟩ : ∃ k, w.heap.size = k := ⟨_, rfl⟩
 rw [hbx] at HB HNF ⊢
 have HBX := Hd hbx
 clear hbx
 generalize w.alloc (.cells (rgC zeroRg).toArray 57) = w0 at HP HB ⊢
 go_loopw [3, 5] (fun v i wr => ∃ k : Nat, k ≤ 11 ∧ i = .int .i64 k ∧ v = .int .i64 0 ∧ Hid ((eachK st p k).2.2 = 0) ∧ ∃ F', PG base g F w F' (eachK st p k).1 wr ∧ Blk wr bx 57 (outC (eachK st p k).2.1).toArray ∧ ¬ F' bx) (fun _ i _ => 11 - (intOf i).toNat)
 case atStart => exact ⟨0, by omega, rfl, rfl, Hd rfl, F, HP.out, HB.out, HNF.out⟩
 case round =>
  obtain ⟨k, hk, rfl, rfl, hr0, F', hp, hbk, hnf⟩ := hrel
  clear HP HB HNF
  have HRL := Hd (eachK_len hr0.out)
  have hsz := hp.chg.size
  by_cases hlt : k < 11
  ·have HSU := Hd (eachK_succ (st := st) (p := p) hr0.out)
   obtain ⟨r, hr⟩ : ∃ r, eachK st p k = r := ⟨_, rfl⟩
   rw [hr] at hr0 hp hbk HRL HSU
   obtain ⟨s, hs⟩ : ∃ s, st r.1 k = s := ⟨_, rfl⟩
   have HC := Hd (by have := HH.out k hlt wr F' r.1 hp (Nat.le_trans HBS.out hsz); rw [hs] at this; exact this)
   rw [hs] at HSU
   obtain ⟨rp, rl, re⟩ := r
   obtain ⟨sp, sn, se⟩ := s
   dsimp only at hr0 hp hbk HRL HSU HC
   have HP := Hd hp
   have HB := Hd (And.intro hbk hnf)
   clear hp hbk hnf hr hs hr0 hsz
   go_wp2_with fail
   refine HC.out.mono ?_
   rintro e w1 ⟨rfl, F2, hp2⟩
   have HP2 := Hd (HP.out.trans hp2)
   have HB2 := Hd (hp2.blk HB.out.1 HB.out.2)
   clear hp2 HC HP HB
   have ck : w1.cell? ⟨bx, k, none⟩ = some (.int .i64 0) := by
    rw [HB2.out.1.cell k, List.getElem?_toArray]
    have := outC_at (l := rl) (by rw [HRL.out]; exact hlt)
    rw [HRL.out] at this
    exact this
   have fk := HB2.out.1.frozen k
   have HB3 := Hd (show Blk (w1.setCell ⟨bx, k, none⟩ (.int .i64 sn)) bx 57 (outC (rl ++ [sn])).toArray by
    have h1 := HB2.out.1.set_ k (.int .i64 sn)
    rw [List.setIfInBounds_toArray] at h1
    have h2 := outC_set (l := rl) (by rw [HRL.out]; exact hlt) sn
    rw [HRL.out] at h2
    rw [h2] at h1
    exact h1)
   have HP3 := Hd (HP2.out.own (w2 := w1.setCell ⟨bx, k, none⟩ (.int .i64 sn)) HB2.out.2 (by have := HBX.out; omega) (chg_setCell (b := bx) rfl _ rfl))
   cases hse : (se != 0)
   ·go_wp2
    go_roundw
    case measure => simp [intOf]; omega
    case rel =>
     refine ⟨k + 1, by omega, by go_num, by simpa using hse, ?_, F2, ?_, ?_, HB2.out.2⟩
     ·rw [HSU.out]; exact Hd (by simpa using hse)
     ·rw [HSU.out]; exact HP3.out
     ·rw [HSU.out]; exact HB3.out
   ·have HV := Hd (show eachV st p = (sp, zeroRg, se) by
     have hne : (eachK st p (k + 1)).2.2 ≠ 0 := by rw [HSU.out]; simpa using hse
     unfold eachV
     dsimp only
     rw [eachK_bad hne (by omega), if_neg hne, HSU.out])
    have qb := build_zr
    go_wp2_with (first
     | (refine wpList_store_at rfl 57 (.tmp 2) (.tmp 18) rfl bx 0 57 _ (rgC zeroRg) (.agg (rgC zeroRg).toArray) HB3.out (by rfl) (by rfl) rfl sizR (by rw [outC_len (by rw [List.length_append, HRL.out]; simp; omega)]; simp [rgC, zeroRg]) (rgC_one _) ?_
        intro wq hBq hgq hsq
        have HBQ := Hd hBq
        have HPQ := Hd (HP3.out.own HB2.out.2 (by have := HBX.out; omega) (Chg.of_grown hgq (fun k e => .inl (by injection e with e; exact e.symm))))
        clear hBq hgq hsq)
     | fail)
    have hov : overC (outC (rl ++ [sn])) 0 (rgC zeroRg) = rgC zeroRg := by
     unfold overC
     rw [List.take_zero, List.nil_append, Nat.zero_add, List.drop_of_length_le (by rw [outC_len (by rw [List.length_append, HRL.out]; simp; omega)]; simp [rgC, zeroRg]), List.append_nil]
    have hx8 := HBQ.out
    rw [hov] at hx8
    have hrl := run_loadVar_at (P := prog) wq ⟨bx, 0, none⟩ 57 (rgC zeroRg) _ (blk_list hx8) underlying57 rfl sizR
    refine bodyPost_ret (v := .tuple #[.agg (rgC zeroRg).toArray, .int .i64 se]) ?_ rfl ⟨by rw [HV.out], F2, by rw [HV.out]; exact HPQ.out⟩
    simp [results, results34, Act.put, asAddr, Result.andThen, hrl]
  ·obtain rfl : k = 11 := by omega
   have HV := Hd (show eachV st p = eachK st p 11 by unfold eachV; dsimp only; rw [if_pos hr0.out])
   have HE0 := Hd (show (eachV st p).2.2 = 0 by rw [HV.out]; exact hr0.out)
   have hfull := outC_full HRL.out
   rw [hfull] at hbk
   rw [← HV.out] at hp hbk HRL
   obtain ⟨r, hr⟩ : ∃ r, eachV st p = r := ⟨_, rfl⟩
   rw [hr] at hp hbk HRL HE0 ⊢
   obtain ⟨rp, rl, re⟩ := r
   dsimp only at hp hbk HRL HE0
   have HP := Hd hp
   have HVR := Hd hr
   have HB := Hd hbk
   have HLR := Hd (show (rgC rl).length = 11 by unfold rgC; rw [List.length_map]; exact HRL.out)
   have hnf2 := Hd hnf
   clear hp hbk hr hr0 hfull hsz HV hnf
   go_wp2_with (first
    | (refine wpList_load_at rfl 57 (.tmp 2) rfl ⟨bx, 0, none⟩ (by rfl) (rgC rl) _ (blk_list HB.out) underlying57 rfl (by rw [HLR.out]; exact sizR) ?_)
    | (refine wpList_store_at rfl 57 (.tmp 2) (.tmp 21) rfl bx 0 57 _ (rgC rl) (.agg (rgC rl).toArray) HB.out (by rfl) (by rfl) rfl (by rw [HLR.out]; exact sizR) (by omega) (rgC_one _) ?_
       intro wq hBq hgq hsq
       have HBQ := Hd hBq
       have HPQ := Hd (HP.out.own hnf2.out (by have := HBX.out; omega) (Chg.of_grown hgq (fun k e => .inl (by injection e with e; exact e.symm))))
       clear hBq hgq hsq)
    | fail)
   have hov : overC (rgC rl) 0 (rgC rl) = rgC rl := by
    unfold overC
    rw [List.take_zero, List.nil_append, Nat.zero_add, List.drop_of_length_le (Nat.le_refl _), List.append_nil]
   have hx8 := HBQ.out
   rw [hov] at hx8
   have hrl := run_loadVar_at (P := prog) wq ⟨bx, 0, none⟩ 57 (rgC rl) _ (blk_list hx8) underlying57 rfl (by rw [HLR.out]; exact sizR)
   refine bodyPost_ret (v := .tuple #[.agg (rgC rl).toArray, .int .i64 0]) ?_ rfl ⟨by rw [HVR.out, HE0.out], _, by rw [HVR.out]; exact HPQ.out⟩
   simp [results, results34, Act.put, asAddr, Result.andThen, hrl]
/-! ### Start, Entry -/
def startS (p : PS) (i : Nat) : RS := putR p (varT (i : Int) 64)
def firstV (i : Nat) : Int := if i = 1 then 2097152 else if i = 10 then 3145792 else 0
def entryS (p : PS) (i : Nat) : RS := putR p (constT (firstV i))
theorem enters_start : EntersB 35 := enters_of func35 (by kernel_rfl) rfl
theorem start1_any (i : Nat) (hi : i < 11) (W : World) (F1 : Nat → Prop) (p1 : PS) (bp : Nat) (h : PoolAt W base F1 g p1) (hbase : base ≤ W.heap.size) (hb : Blk W bp 50 #[.pointer (some ⟨g, 0, none⟩)]) :
  Calls prog 35 #[.int .i64 (i : Int), .pointer (some ⟨bp, 0, none⟩)] W (RetP base g F1 W (startS p1 i)) := by
 have c0 := hb.cell 0
 simp at c0
 have HP := Hd h
 clear h hb
 go_enter func35, ntmps35
 go_wp2_with fail
 refine (var_any (i : Int) 64 (by omega) (by omega) (by unfold I8; omega) _ HP.out hbase).mono ?_
 rintro e w1 ⟨rfl, hr⟩
 have HR := Hd hr
 clear hr
 go_wp2
 go_ret2
 exact ⟨rfl, HR.out⟩
theorem start_any (h : PoolAt w base F g p) (hbase : base ≤ w.heap.size) : Calls prog 14 #[.pointer (some ⟨g, 0, none⟩)] w (EachP base g F w (eachV startS p)) := by
 have zr := zeroR
 obtain ⟨w1, hw1⟩ : ∃ v, (w.alloc (.cells #[.pointer (some ⟨g, 0, none⟩)] 50)).alloc (.cells (rgC zeroRg).toArray 57) = v := ⟨_, rfl⟩
 have hb0 : Below w.heap.size w w1 := by rw [← hw1]; exact ((Below.refl _ w).alloc (Nat.le_refl _) _).alloc (by simp) _
 have HP := Hd (PG.of_below h hb0)
 have HB := Hd (show Blk w1 w.heap.size 50 #[.pointer (some ⟨g, 0, none⟩)] by rw [← hw1]; exact (Blk.new w 50 #[.pointer (some ⟨g, 0, none⟩)]).alloc _)
 have HO := Hd (show Blk w1 (w.heap.size + 1) 57 (rgC zeroRg).toArray by rw [← hw1]; exact Blk.new (w.alloc (.cells #[.pointer (some ⟨g, 0, none⟩)] 50)) 57 (rgC zeroRg).toArray |> fun q => by simpa using q)
 have HNF := Hd (fun b (hb : w.heap.size ≤ b) q => by have := (h.fb b q).2; omega : ∀ b, w.heap.size ≤ b → ¬ F b)
 obtain ⟨r, hr⟩ : ∃ r, eachV startS p = r := ⟨_, rfl⟩
 have HC := Hd (by
  have := each_any (HP.out.pool) (Nat.le_trans hbase HP.out.size) 35 #[.pointer (some ⟨w.heap.size, 0, none⟩)] enters_start startS (fun i hi W F1 p1 hp hb => start1_any i hi W F1 p1 w.heap.size hp.pool hb (hp.blk HB.out (HNF.out _ (Nat.le_refl _))).1)
  rw [hr] at this
  exact this)
 rw [hr]
 have HLR := Hd (show (rgC r.2.1).length = 11 by rw [← hr]; exact eachV_len startS p)
 obtain ⟨rp, rl, re⟩ := r
 clear h hb0 hbase hr
 go_enter func14, ntmps14
 go_wp2_with fail
 refine HC.out.mono ?_
 rintro e w2 ⟨rfl, F2, hp2⟩
 have HP2 := Hd (HP.out.trans hp2)
 have HO2 := Hd (hp2.blk HO.out (HNF.out _ (by omega)))
 clear hp2 hw1 HC HP HB HO
 go_wp2_with (first
  | (refine wpList_store_at rfl 57 (.tmp 2) (.tmp 6) rfl (w.heap.size + 1) 0 57 _ (rgC rl) (.agg (rgC rl).toArray) HO2.out.1 (by rfl) (by rfl) rfl (by rw [HLR.out]; exact sizR) (by rw [HLR.out]; simp [rgC, zeroRg]) (rgC_one _) ?_
     intro wq hBq hgq hsq
     have HBQ := Hd hBq
     have HPQ := Hd (HP2.out.own HO2.out.2 (by omega) (Chg.of_grown hgq (fun k e => .inl (by injection e with e; exact e.symm))))
     clear hBq hgq hsq)
  | fail)
 have hov : overC (rgC zeroRg) 0 (rgC rl) = rgC rl := by
  unfold overC
  rw [List.take_zero, List.nil_append, Nat.zero_add, List.drop_of_length_le (by rw [HLR.out]; simp [rgC, zeroRg]), List.append_nil]
 have hx8 := HBQ.out
 rw [hov] at hx8
 have hrl := run_loadVar_at (P := prog) wq ⟨w.heap.size + 1, 0, none⟩ 57 (rgC rl) _ (blk_list hx8) underlying57 rfl (by rw [HLR.out]; exact sizR)
 refine bodyPost_ret (v := .tuple #[.agg (rgC rl).toArray, .int .i64 re]) ?_ rfl ⟨rfl, _, HPQ.out⟩
 simp [results, results14, Act.put, asAddr, Result.andThen, hrl]
def firstL : List Value := [.int .u64 0, .int .u64 2097152, .int .u64 0, .int .u64 0, .int .u64 0, .int .u64 0, .int .u64 0, .int .u64 0, .int .u64 0, .int .u64 0, .int .u64 3145792]
end
end
section
open Go.RowKit
def iteV (a b c : Int) : Int := if a = 0 then c else b
section
variable {vs : List Int} (hU : ∀ v ∈ vs, U64 v)
include hU
def valD (vs : List Int) (p : PS) (n : Int) : Int := (evP p.T vs n).getD 0
end
end
section
open Go.RowKit
def sameI (a b : List Int) : Bool := decide (a = b)
def DrP (b : Bool) (w : World) (e : Ending) (w' : World) : Prop := e = .returned (.bool b) ∧ ∃ d, w' = w.drewN d
def sameE (x y : EvD) : Bool := x.kind == y.kind && (x.size == y.size && (x.a == y.a && (x.v == y.v && (x.num == y.num && sameI x.args y.args))))
end
end Go.Proofs.YtepagfkkjlbipaaGreat
