/-
  SymbcEntry: what a block comes to from the entry is what it comes to from its start, the registers being the entry's: the walk. Conditions: those written in each statement.
-/
import Derived.Test.YtepagfkkjlbipaaWk
import Derived.Test.YtepagfkkjlbipaaVc
import Derived.Test.YtepagfkkjlbipaaLam
import Derived.Test.YtepagfkkjlbipaaUe
namespace Go.Proofs.Ytepagfkkjlbipaa
open Go.RowKit
set_option linter.unusedVariables false
set_option linter.unusedSimpArgs false
set_option maxRecDepth 100000
theorem src_cell {w : World} {b : Nat} {regs : List Int} {es : Value} {ex : ExD} (hl : regs.length = 11) (h : Blk w b 40 (srcC regs es ex).toArray) (k : Nat) : w.cell? ⟨b, 11 + k, none⟩ = [es, .int .i8 ex.kind, .int .i64 ex.v, .int .i64 ex.tgt, .int .i64 ex.els][k]? := by
  rw [h.cell (11 + k), List.getElem?_toArray]
  unfold srcC rgC
  rw [List.getElem?_append_right (by rw [List.length_map, hl]; omega), List.length_map, hl, Nat.add_sub_cancel_left]
theorem src_reg {w : World} {b : Nat} {regs : List Int} {es : Value} {ex : ExD} (hl : regs.length = 11) (h : Blk w b 40 (srcC regs es ex).toArray) {k : Nat} (hk : k < 11) : w.cell? ⟨b, k, none⟩ = some (.int .i64 (regs.getD k 0)) := by
  rw [h.cell k, List.getElem?_toArray]
  unfold srcC rgC
  rw [List.getElem?_append_left (by rw [List.length_map, hl]; exact hk), List.getElem?_map, List.getD_eq_getElem?_getD, List.getElem?_eq_getElem (by omega)]
  rfl
def vs0 : List Int := VE ++ List.replicate 249 0
theorem vs0_ok : (∀ v ∈ vs0, U64 v) ∧ 38 + 3 * 64 < vs0.length ∧ vs0.take 11 = VE := by
  refine ⟨fun v hv => ?_, by decide, by rfl⟩
  rcases List.mem_append.1 hv with h | h
  · unfold VE at h
    simp only [List.mem_cons, List.not_mem_nil, or_false] at h
    unfold U64
    omega
  · rw [List.eq_of_mem_replicate h]
    unfold U64
    omega
/-- What the law asks of the two answers. -/
structure EntF (x y : RunD) : Prop where
  err : x.err = y.err
  lim : x.err ≠ 260
  evs : x.evs.length = y.evs.length
  kind : x.ex.kind = y.ex.kind
  tgt : x.ex.tgt = y.ex.tgt
  els : x.ex.els = y.ex.els
  vals : ∀ vs : List Int, (∀ v ∈ vs, U64 v) → vs.length = 260 → vs.take 11 = VE → Sides vs x y
theorem ent_all (c : Int) (l : List ID) (block : Int) : EntF (runV P0 c l block R0) (runV PE c l block RE) := by
  obtain ⟨h1, h2, h3⟩ := vs0_ok
  have h := sides h1 h2 h3 c l block
  exact ⟨h.err, h.lim, h.evs, h.kind, h.tgt, h.els, fun vs hu hl ht => sides hu (by omega) ht c l block⟩
theorem ev_has {T : List TD} {vs : List Int} {n v : Int} (h : evP T vs n = some v) : hasB T n = true := by
  cases hb : hasB T n
  · rw [evP_no hb] at h; cases h
  · rfl
theorem reads_u64 {w : World} {g : Nat} {vs : List Int} (h : Blk w g 46 (u64C vs).toArray) (hl : vs.length = 260) : Reads w w.heap.size 1 (some ⟨g, 0, none⟩) 260 (vs.map (Value.int .u64)) := ⟨by rw [List.length_map]; omega, fun _ => ⟨_, rfl, h.lt, blk_list h⟩⟩
theorem take_ve {V : List Int} (hl : V.length = 260) (h : ∀ j, j < 11 → V.getD j 0 = 0) : ((V.set 1 2097152).set 10 3145792).take 11 = VE := by
  refine List.ext_getElem (by rw [List.length_take, List.length_set, List.length_set, hl]; rfl) fun i h1 h2 => ?_
  have hi : i < 11 := h2
  rw [List.getElem_take, List.getElem_set, List.getElem_set]
  have h0 : V[i] = 0 := by
    have := h i hi
    rwa [List.getD_eq_getElem?_getD, List.getElem?_eq_getElem (by omega)] at this
  rw [h0]
  have key : ∀ i, i < 11 → VE[i]? = some (if 10 = i then 3145792 else if 1 = i then 2097152 else 0) := by decide
  have := key i hi
  rw [List.getElem?_eq_getElem h2] at this
  exact (Option.some.inj this).symm
theorem src_lt {w : World} {b k : Nat} {v : Value} (h : w.cell? ⟨b, k, none⟩ = some v) : b < w.heap.size := by
  rcases Nat.lt_or_ge b w.heap.size with q | q
  · exact q
  · unfold World.cell? at h
    simp [Array.getElem?_eq_none q] at h
theorem u64_cell {w : World} {g : Nat} {V : List Int} (h : Blk w g 46 (u64C V).toArray) {k : Nat} (hk : k < V.length) : w.cell? ⟨g, k, none⟩ = some (.int .u64 (V.getD k 0)) := by
  rw [h.cell k, List.getElem?_toArray]
  unfold u64C
  rw [List.getElem?_map, List.getD_eq_getElem?_getD, List.getElem?_eq_getElem hk]
  rfl
theorem set_chg (w : World) (g k : Nat) (v : Value) : Chg (fun q => q = g) w (w.setCell ⟨g, k, none⟩ v) := Chg.of_grown (row := some g) ⟨rfl, rfl, rfl, by simp [World.setCell], fun i _ hne => Below.heap_setCell w ⟨g, k, none⟩ _ i (fun e => hne (by rw [e]))⟩ (fun q e => by injection e with e; exact .inl e.symm)
theorem readsF_of {w : World} {F : Nat → Prop} {B size n : Nat} {A : Option Addr} {xs : List Value} (h : Reads w B size A n xs) (hB : B ≤ w.heap.size) (hF : ∀ k, F k → B ≤ k) : ReadsF w F size A n xs := ⟨h.1, fun hn => by
  obtain ⟨ad, e, hb, hc⟩ := h.2 hn
  exact ⟨ad, e, by omega, fun q => by have := hF _ q; omega, hc⟩⟩
set_option maxHeartbeats 16000000 in
theorem entry_walk (c : Int) (A : Option Addr) (n cap : Nat) (l : List ID) (block : Int) (A2 : Option Addr) (n2 c2 : Nat) (l2 : List Int) (w : World) (hh : InsAt w w.heap.size A n l) (hc : n ≤ cap) (hm : n < 9223372036854775808) (hbk : I64 block)
    (hr2 : Reads w w.heap.size 1 A2 n2 (u64C l2)) (hl2 : l2.length = n2) (hc2 : n2 ≤ c2) (hm2 : n2 < 9223372036854775808) :
    Calls Try.prog 4 #[.agg #[.int .i64 c, .slice A n cap], .int .i64 block, .slice A2 n2 c2] w fun e w' => e = .returned (.bool true) ∧ Below w.heap.size w w' := by
  obtain ⟨w1, hw1⟩ : ∃ v, w.alloc (.cells #[.int .i64 c, .slice A n cap] 29) = v := ⟨_, rfl⟩
  have hb0 : Below w.heap.size w w1 := by rw [← hw1]; exact (Below.refl _ w).alloc (Nat.le_refl _) _
  have HBP := hide (show Blk w1 w.heap.size 29 #[.int .i64 c, .slice A n cap] by rw [← hw1]; exact Blk.new w 29 #[.int .i64 c, .slice A n cap])
  have HI := hide (hh.up hb0 hb0.size)
  have HR2 := hide (show Reads w1 w1.heap.size 1 A2 n2 (u64C l2) from (hr2.below hb0).more hb0.size)
  have HL2 := hide (And.intro hl2 hc2)
  have HW := hide hb0
  have HN := hide (And.intro hc hm)
  have HBK := hide hbk
  have c20 : w1.cell? ⟨w.heap.size, 0, none⟩ = some (.int .i64 c) := HBP.out.cell 0
  have c21 : w1.cell? ⟨w.heap.size, 1, none⟩ = some (.slice A n cap) := HBP.out.cell 1
  obtain ⟨bp, hbp⟩ : ∃ k, w.heap.size = k := ⟨_, rfl⟩
  rw [hbp] at HBP c20 c21
  clear hh hc hm hbk hb0 hr2 hl2 hc2
  cases hg : decide (100 < n)
  rotate_left
  · have hn100 : 100 < n := by simpa using hg
    go_enter Try.func4, Try.ntmps4
    go_wp2_with fail
    refine (wakes_any _).mono ?_
    rintro e w2 ⟨rfl, hb⟩
    have HQ := hide hb
    clear hb
    go_wp2
    go_ret
    exact ⟨rfl, HW.out.trans (HQ.out.mono HW.out.size)⟩
  have hn100 : n ≤ 100 := by simpa using hg
  clear hg
  cases hg : decide (100 < n2)
  rotate_left
  · have hn2 : 100 < n2 := by simpa using hg
    go_enter Try.func4, Try.ntmps4
    go_wp2_with fail
    refine (wakes_any _).mono ?_
    rintro e w2 ⟨rfl, hb⟩
    have HQ := hide hb
    clear hb
    go_wp2
    go_ret
    exact ⟨rfl, HW.out.trans (HQ.out.mono HW.out.size)⟩
  have hn2 : n2 ≤ 100 := by simpa using hg
  clear hg hm2
  go_enter Try.func4, Try.ntmps4
  go_wp2_with fail
  refine (new_any _).mono ?_
  rintro e w2 ⟨g1, F1, rfl, hp, hb⟩
  have hF1 : ∀ b, F1 b → w1.heap.size ≤ b := fun b q => (hp.fb b q).1
  replace HBP := hide (show Blk w2 bp 29 #[.int .i64 c, .slice A n cap] from HBP.out.below hb HBP.out.lt)
  replace HI := hide (HI.out.below hb)
  replace HR2 := hide (HR2.out.below hb)
  have HP1 := hide hp
  have HB1 := hide hb
  have hlt0 : bp < w1.heap.size := by rw [← hw1, ← hbp]; simp
  clear hp hb c20 c21 hw1 hbp
  go_wp2_with fail
  refine (new_any _).mono ?_
  rintro e w3 ⟨g2, F2, rfl, hp, hb⟩
  have hs12 := HB1.out.size
  have hF2 : ∀ b, F2 b → w2.heap.size ≤ b := fun b q => (hp.fb b q).1
  have hG : ∀ b, bothF F1 F2 b → w1.heap.size ≤ b := fun b q => q.elim (hF1 b) (fun r => Nat.le_trans HB1.out.size (hF2 b r))
  have HF := hide hG
  have HT := hide (show Two w1.heap.size g1 F1 ⟨[], []⟩ w2.heap.size g2 F2 ⟨[], []⟩ w3 from ⟨HP1.out.below hb, hp, fun k q r => by have := (HP1.out.fb k q).2; have := hF2 k r; omega, Nat.le_trans HB1.out.size hb.size, hb.size⟩)
  replace HB1 := hide (HB1.out.trans (hb.mono HB1.out.size))
  replace HBP := hide (show Blk w3 bp 29 #[.int .i64 c, .slice A n cap] ∧ ¬ bothF F1 F2 bp from ⟨HBP.out.below hb HBP.out.lt, fun q => by have := hG bp q; omega⟩)
  replace HI := hide (show InsF w3 (bothF F1 F2) A n l from InsF.of_ins ((HI.out.below (hb.mono hs12))) HB1.out.size hG)
  replace HR2 := hide (show ReadsF w3 (bothF F1 F2) 1 A2 n2 (u64C l2) from readsF_of (HR2.out.below (hb.mono hs12)) HB1.out.size hG)
  have HGO := hide (Go2.refl (bothF F1 F2) w3)
  clear hp hb hF1 hF2 hG HP1 hlt0 hs12
  go_upto_region 4 with fail
  go_wp2_with fail
  refine (start_any HT.out.a HT.out.h1).mono ?_
  rintro e w4 ⟨rfl, Fa, hp⟩
  rw [start_empty] at hp ⊢
  obtain ⟨htw, hgo⟩ := HT.out.left hp
  replace HBP := hide (hgo.blk HBP.out)
  replace HI := hide (hgo.ins HI.out)
  replace HR2 := hide (hgo.rd HR2.out)
  replace HGO := hide (HGO.out.trans hgo)
  replace HT := hide htw
  clear htw hgo
  clear hp
  go_upto_region 5 with (first
    | (refine wpList_store_new rfl 32 (.tmp 9) (.tmp 44) rfl _ (rgC R0) (.agg (rgC R0).toArray) (by rfl) (by rfl) rfl sizR (by rfl) (rgC_one _) ?_
       intro w5 Gz Lz Zz
       have HB9 := hide Gz
       have HLz := hide Lz
       clear Gz Lz Zz)
    | fail)
  have hnf : ¬ bothF Fa F2 w4.heap.size := fun q => by have := HT.out.lt1 q; omega
  replace HB9 := hide (And.intro HB9.out hnf)
  have hgo := Go2.below (G := (bothF Fa F2)) HLz.out
  replace HBP := hide (hgo.blk HBP.out)
  replace HI := hide (hgo.ins HI.out)
  replace HR2 := hide (hgo.rd HR2.out)
  replace HGO := hide (HGO.out.trans hgo)
  replace HT := hide (HT.out.step HLz.out)
  clear hgo
  obtain ⟨b9, hbn⟩ : ∃ q, w4.heap.size = q := ⟨_, rfl⟩
  rw [hbn] at HB9 ⊢
  clear hbn HLz hnf
  go_wp2_with fail
  refine (entry_any HT.out.b HT.out.h2).mono ?_
  rintro e w6 ⟨rfl, Fb, hp⟩
  rw [entry_empty] at hp ⊢
  obtain ⟨htw, hgo⟩ := HT.out.right hp
  replace HBP := hide (hgo.blk HBP.out)
  replace HB9 := hide (hgo.blk HB9.out)
  replace HI := hide (hgo.ins HI.out)
  replace HR2 := hide (hgo.rd HR2.out)
  replace HGO := hide (HGO.out.trans hgo)
  replace HT := hide htw
  clear htw hgo
  clear hp
  go_upto_region 6 with (first
    | (refine wpList_store_new rfl 32 (.tmp 11) (.tmp 49) rfl _ (rgC RE) (.agg (rgC RE).toArray) (by rfl) (by rfl) rfl sizR (by rfl) (rgC_one _) ?_
       intro w7 Gz Lz Zz
       have HB11 := hide Gz
       have HLz := hide Lz
       clear Gz Lz Zz)
    | fail)
  have hnf : ¬ bothF Fa Fb w6.heap.size := fun q => by have := HT.out.lt1 q; omega
  replace HB11 := hide (And.intro HB11.out hnf)
  have hgo := Go2.below (G := (bothF Fa Fb)) HLz.out
  replace HBP := hide (hgo.blk HBP.out)
  replace HB9 := hide (hgo.blk HB9.out)
  replace HI := hide (hgo.ins HI.out)
  replace HR2 := hide (hgo.rd HR2.out)
  replace HGO := hide (HGO.out.trans hgo)
  replace HT := hide (HT.out.step HLz.out)
  clear hgo
  obtain ⟨b11, hbn⟩ : ∃ q, w6.heap.size = q := ⟨_, rfl⟩
  rw [hbn] at HB11 ⊢
  clear hbn HLz hnf
  have c20 : w7.cell? ⟨bp, 0, none⟩ = some (.int .i64 c) := HBP.out.1.cell 0
  have c21 : w7.cell? ⟨bp, 1, none⟩ = some (.slice A n cap) := HBP.out.1.cell 1
  have hrr : ∀ r ∈ R0, I64 r := fun r hr => has_i64 P0_good.1 (P0_good.2.2 r hr)
  go_wp2_with (first
    | (refine wpList_load_at rfl 32 (.tmp 9) rfl ⟨b9, 0, none⟩ (by rfl) (rgC R0) _ (blk_list HB9.out.1) Try.underlying32 rfl (sizR) ?_)
    | fail)
  have hie : InsF w7 Fa A n l := HI.out.chg (H := fun _ => False) (Chg.refl _ _) (fun b q => q.elim) (fun b q => .inl (.inl q))
  refine (srun_any HT.out.a HT.out.h1 c A n cap l hie HN.out.1 HN.out.2 block HBK.out R0 rfl hrr).mono ?_
  rintro e w8 ⟨es1, Fc, rfl, hp, hev, ho⟩
  have hol : ∀ b, Fb b → b < w7.heap.size := fun b q => HT.out.lt1 (.inr q)
  obtain ⟨htw, hgo⟩ := HT.out.left hp
  replace HBP := hide (hgo.blk HBP.out)
  replace HB9 := hide (hgo.blk HB9.out)
  replace HB11 := hide (hgo.blk HB11.out)
  replace HI := hide (hgo.ins HI.out)
  replace HR2 := hide (hgo.rd HR2.out)
  replace HGO := hide (HGO.out.trans hgo)
  replace HT := hide htw
  clear htw hgo
  replace hev : EvsAt w8 (bothF Fc Fb) es1 _ := hev.less (fun b q => q.elim (fun r => .inl r) (fun r => .inr (hol b r)))
  have HEVx := hide hev
  have HO := hide ho
  have HLx := hide (run_regs P0 c l block (k := 1950) P0_mi)
  obtain ⟨x, hx⟩ : ∃ q, runV P0 c l block R0 = q := ⟨_, rfl⟩
  rw [hx] at HEVx HLx HT ⊢
  have HXx := hide hx
  clear hp hev ho hie hrr hol c20 c21 hx
  go_upto_region 7 with (first
    | (refine wpList_store_new rfl 40 (.tmp 13) (.tmp 57) rfl _ (srcC x.regs es1 x.ex) (.agg (srcC x.regs es1 x.ex).toArray) (by rfl) (by rfl) rfl (by rw [srcC_len HLx.out]; exact sizS) (by rw [srcC_len HLx.out]; rfl) (srcC_one HO.out _) ?_
       intro w9 Gz Lz Zz
       have HB13 := hide Gz
       have HLz := hide Lz
       clear Gz Lz Zz)
    | fail)
  have hnf : ¬ bothF Fc Fb w8.heap.size := fun q => by have := HT.out.lt1 q; omega
  replace HB13 := hide (And.intro HB13.out hnf)
  have hgo := Go2.below (G := (bothF Fc Fb)) HLz.out
  replace HBP := hide (hgo.blk HBP.out)
  replace HB9 := hide (hgo.blk HB9.out)
  replace HB11 := hide (hgo.blk HB11.out)
  replace HI := hide (hgo.ins HI.out)
  replace HR2 := hide (hgo.rd HR2.out)
  replace HEVx := hide (hgo.evs HEVx.out)
  replace HGO := hide (HGO.out.trans hgo)
  replace HT := hide (HT.out.step HLz.out)
  clear hgo
  obtain ⟨b13, hbn⟩ : ∃ q, w8.heap.size = q := ⟨_, rfl⟩
  rw [hbn] at HB13 ⊢
  clear hbn HLz hnf
  clear HO
  have c20 : w9.cell? ⟨bp, 0, none⟩ = some (.int .i64 c) := HBP.out.1.cell 0
  have c21 : w9.cell? ⟨bp, 1, none⟩ = some (.slice A n cap) := HBP.out.1.cell 1
  have hrr : ∀ r ∈ RE, I64 r := fun r hr => has_i64 PE_good.1 (PE_good.2.2 r hr)
  go_wp2_with (first
    | (refine wpList_load_at rfl 32 (.tmp 11) rfl ⟨b11, 0, none⟩ (by rfl) (rgC RE) _ (blk_list HB11.out.1) Try.underlying32 rfl (sizR) ?_)
    | fail)
  have hie : InsF w9 Fb A n l := HI.out.chg (H := fun _ => False) (Chg.refl _ _) (fun b q => q.elim) (fun b q => .inl (.inr q))
  refine (srun_any HT.out.b HT.out.h2 c A n cap l hie HN.out.1 HN.out.2 block HBK.out RE rfl hrr).mono ?_
  rintro e w10 ⟨es2, Fd, rfl, hp, hev, ho⟩
  have hol : ∀ b, Fc b → b < w9.heap.size := fun b q => HT.out.lt1 (.inl q)
  obtain ⟨htw, hgo⟩ := HT.out.right hp
  replace HBP := hide (hgo.blk HBP.out)
  replace HB9 := hide (hgo.blk HB9.out)
  replace HB11 := hide (hgo.blk HB11.out)
  replace HB13 := hide (hgo.blk HB13.out)
  replace HI := hide (hgo.ins HI.out)
  replace HR2 := hide (hgo.rd HR2.out)
  replace HEVx := hide (hgo.evs HEVx.out)
  replace HGO := hide (HGO.out.trans hgo)
  replace HT := hide htw
  clear htw hgo
  replace hev : EvsAt w10 (bothF Fc Fd) es2 _ := hev.less (fun b q => q.elim (fun r => .inr (hol b r)) (fun r => .inl r))
  have HEVy := hide hev
  have HO := hide ho
  have HLy := hide (run_regs PE c l block (k := 1950) PE_mi)
  obtain ⟨y, hy⟩ : ∃ q, runV PE c l block RE = q := ⟨_, rfl⟩
  rw [hy] at HEVy HLy HT ⊢
  have HXy := hide hy
  clear hp hev ho hie hrr hol c20 c21 hy
  go_upto_region 8 with (first
    | (refine wpList_store_new rfl 40 (.tmp 15) (.tmp 65) rfl _ (srcC y.regs es2 y.ex) (.agg (srcC y.regs es2 y.ex).toArray) (by rfl) (by rfl) rfl (by rw [srcC_len HLy.out]; exact sizS) (by rw [srcC_len HLy.out]; rfl) (srcC_one HO.out _) ?_
       intro w11 Gz Lz Zz
       have HB15 := hide Gz
       have HLz := hide Lz
       clear Gz Lz Zz)
    | fail)
  have hnf : ¬ bothF Fc Fd w10.heap.size := fun q => by have := HT.out.lt1 q; omega
  replace HB15 := hide (And.intro HB15.out hnf)
  have hgo := Go2.below (G := (bothF Fc Fd)) HLz.out
  replace HBP := hide (hgo.blk HBP.out)
  replace HB9 := hide (hgo.blk HB9.out)
  replace HB11 := hide (hgo.blk HB11.out)
  replace HB13 := hide (hgo.blk HB13.out)
  replace HI := hide (hgo.ins HI.out)
  replace HR2 := hide (hgo.rd HR2.out)
  replace HEVx := hide (hgo.evs HEVx.out)
  replace HEVy := hide (hgo.evs HEVy.out)
  replace HGO := hide (HGO.out.trans hgo)
  replace HT := hide (HT.out.step HLz.out)
  clear hgo
  obtain ⟨b15, hbn⟩ : ∃ q, w10.heap.size = q := ⟨_, rfl⟩
  rw [hbn] at HB15 ⊢
  clear hbn HLz hnf
  clear HO
  have HEN := hide (show EntF x y by rw [← HXx.out, ← HXy.out]; exact ent_all c l block)
  obtain ⟨er, her⟩ : ∃ q, x.err = q := ⟨_, rfl⟩
  obtain ⟨ek, hek⟩ : ∃ q, x.ex.kind = q := ⟨_, rfl⟩
  obtain ⟨et, het⟩ : ∃ q, x.ex.tgt = q := ⟨_, rfl⟩
  obtain ⟨ee, hee⟩ : ∃ q, x.ex.els = q := ⟨_, rfl⟩
  obtain ⟨ne, hne⟩ : ∃ q, x.evs.length = q := ⟨_, rfl⟩
  obtain ⟨A1, k1, hs1, hk1⟩ := HEVx.out.form
  obtain ⟨A3, k3, hs3, hk3⟩ := HEVy.out.form
  have hney : y.evs.length = ne := by rw [← HEN.out.evs]; exact hne
  rw [hne] at hs1
  rw [hney] at hs3
  subst hs1 hs3
  have hery : y.err = er := by rw [← HEN.out.err]; exact her
  have hne64 := (run_pool P0 c l block (k := 1950) P0_mi).2
  rw [HXx.out, hne] at hne64
  have hk64 : ne < 9223372036854775807 := by omega
  have h260 : (er == 260) = false := by have := HEN.out.lim; rw [her] at this; simpa using this
  have hrf : (er != er) = false := by simp
  have c131 : w11.cell? ⟨b13, 11, none⟩ = some (.slice A1 ne k1) := src_cell HLx.out HB13.out.1 0
  have c132 : w11.cell? ⟨b13, 12, none⟩ = some (.int .i8 ek) := by rw [← hek]; exact src_cell HLx.out HB13.out.1 1
  have c134 : w11.cell? ⟨b13, 14, none⟩ = some (.int .i64 et) := by rw [← het]; exact src_cell HLx.out HB13.out.1 3
  have c135 : w11.cell? ⟨b13, 15, none⟩ = some (.int .i64 ee) := by rw [← hee]; exact src_cell HLx.out HB13.out.1 4
  have c151 : w11.cell? ⟨b15, 11, none⟩ = some (.slice A3 ne k3) := src_cell HLy.out HB15.out.1 0
  have c152 : w11.cell? ⟨b15, 12, none⟩ = some (.int .i8 ek) := by rw [← hek, HEN.out.kind]; exact src_cell HLy.out HB15.out.1 1
  have c154 : w11.cell? ⟨b15, 14, none⟩ = some (.int .i64 et) := by rw [← het, HEN.out.tgt]; exact src_cell HLy.out HB15.out.1 3
  have c155 : w11.cell? ⟨b15, 15, none⟩ = some (.int .i64 ee) := by rw [← hee, HEN.out.els]; exact src_cell HLy.out HB15.out.1 4
  rw [hery, her]
  have HER := hide her
  have HNE := hide (And.intro hne hney)
  have HNW := hide hne64
  clear her hery hek het hee hne hney hk1 hk3 hne64
  have HUP := hide (show Below w.heap.size w w11 from HW.out.trans ((HB1.out.mono HW.out.size).trans (HGO.out.chg.below (B := w.heap.size) (fun b q => Nat.le_trans HW.out.size (HF.out b q)) (Nat.le_trans HW.out.size HB1.out.size))))
  clear HGO HW HF HB1 HXx HXy HI HBP HB9 HB11 HBK HN
  cases hz : (er != 0)
  rotate_left
  · go_wp2_with fail
    refine (wakes_any _).mono ?_
    rintro e w20 ⟨rfl, hb⟩
    have HQ := hide hb
    clear hb
    go_wp2
    go_ret
    exact ⟨rfl, HUP.out.trans (HQ.out.mono HUP.out.size)⟩
  have he0 : er = 0 := by simpa using hz
  subst he0
  clear hz h260 hrf
  go_upto_region 14 with fail
  go_wp2_with fail
  refine (valued_any A2 n2 c2 l2 _ HR2.out.reads HL2.out.1 HL2.out.2 hn2).mono ?_
  rintro e w12 ⟨V0, rfl, hv1, hv2, hv3, hb⟩
  have hgl : ∀ k, bothF Fc Fd k → k < w11.heap.size := fun k q => HT.out.lt1 q
  have HGL := hide hgl
  obtain ⟨gv, hgv⟩ : ∃ q, w11.heap.size = q := ⟨_, rfl⟩
  rw [hgv] at hv3 hb HGL ⊢
  have HV := hide (And.intro hv1 (And.intro hv2 hv3))
  have hbw : Below w11.heap.size w11 w12 := hgv ▸ hb
  replace HEVx := hide (show EvsAt w12 (fun q => gv ≤ q) (.slice A1 ne k1) x.evs from (HEVx.out.chg (G := fun q => gv ≤ q) (H := fun _ => False) (Chg.refl _ _) (fun b q => q.elim) (fun b q => .inr (by rw [hgv]; exact q))).step hbw)
  replace HEVy := hide (show EvsAt w12 (fun q => gv ≤ q) (.slice A3 ne k3) y.evs from (HEVy.out.chg (G := fun q => gv ≤ q) (H := fun _ => False) (Chg.refl _ _) (fun b q => q.elim) (fun b q => .inr (by rw [hgv]; exact q))).step hbw)
  have hgo := Go2.below (G := (bothF Fc Fd)) hbw
  replace HB13 := hide (hgo.blk HB13.out)
  replace HB15 := hide (hgo.blk HB15.out)
  replace HT := hide (HT.out.step hbw)
  clear hgo
  have HU12 := hide (show Below w.heap.size w w12 from HUP.out.trans (hbw.mono HUP.out.size))
  have HLT := hide (show b13 < gv ∧ b15 < gv ∧ w.heap.size ≤ gv from ⟨by have := (src_lt c131); omega, by have := (src_lt c151); omega, by rw [← hgv]; exact HUP.out.size⟩)
  clear hv1 hv2 hv3 hb hbw hgl hgv c131 c132 c134 c135 c151 c152 c154 c155 HUP HR2 HL2
  go_wp2_with fail
  go_loopw [18] (fun i wr => ∃ (k : Nat) (V : List Int), k ≤ 11 ∧ i = .int .i64 k ∧ Hid (V.length = 260 ∧ (∀ v ∈ V, U64 v) ∧ (∀ j, j < k → V.getD j 0 = 0) ∧ Blk wr gv 46 (u64C V).toArray ∧ Chg (fun q => q = gv) w12 wr)) (fun i _ => 11 - (intOf i).toNat)
  case atStart => exact ⟨0, V0, by omega, rfl, HV.out.1, HV.out.2.1, fun j h => absurd h (Nat.not_lt_zero _), HV.out.2.2, Chg.refl _ _⟩
  case round =>
    obtain ⟨k, V, hk, rfl, HVk⟩ := hrel
    rename World => wr
    by_cases hk2 : k < 11
    · have hlv := HVk.out.1
      have cv : wr.cell? ⟨gv, k, none⟩ = some (.int .u64 (V.getD k 0)) := u64_cell HVk.out.2.2.2.1 (by omega)
      have fv := HVk.out.2.2.2.1.frozen k
      go_wp2
      have hch := set_chg wr gv k (.int .u64 0)
      replace HVk := hide (show (V.set k 0).length = 260 ∧ (∀ v ∈ V.set k 0, U64 v) ∧ (∀ j, j < k + 1 → (V.set k 0).getD j 0 = 0) ∧ Blk (wr.setCell ⟨gv, k, none⟩ (.int .u64 0)) gv 46 (u64C (V.set k 0)).toArray ∧ Chg (fun q => q = gv) w12 (wr.setCell ⟨gv, k, none⟩ (.int .u64 0)) from ⟨by rw [List.length_set]; exact hlv, fun v hv => (List.mem_or_eq_of_mem_set hv).elim (HVk.out.2.1 v) (fun e => by rw [e]; unfold U64; omega), fun j hj => by
        rw [getD_set V k j 0 (by omega)]
        split
        · rfl
        · exact HVk.out.2.2.1 j (by omega), by rw [← u64C_set]; exact HVk.out.2.2.2.1.set_ k _, HVk.out.2.2.2.2.trans hch (fun b q => .inl q)⟩)
      generalize wr.setCell ⟨gv, k, none⟩ (.int .u64 0) = ws at HVk ⊢
      clear cv fv hch hlv
      go_roundw
      case measure => simp [intOf]; omega
      case rel => exact ⟨k + 1, _, by omega, by go_num, HVk.out⟩
    · obtain rfl : k = 11 := by omega
      clear hk hk2 HV
      have hlv := HVk.out.1
      have cv1 : wr.cell? ⟨gv, 1, none⟩ = some (.int .u64 (V.getD 1 0)) := u64_cell HVk.out.2.2.2.1 (by omega)
      have fv1 := HVk.out.2.2.2.1.frozen 1
      go_upto_region 20 with fail
      have hc1 := set_chg wr gv 1 (.int .u64 2097152)
      have hb1 : Blk (wr.setCell ⟨gv, 1, none⟩ (.int .u64 2097152)) gv 46 (u64C (V.set 1 2097152)).toArray := by rw [← u64C_set]; exact HVk.out.2.2.2.1.set_ 1 _
      have HC1 := hide hc1
      have HB1 := hide hb1
      generalize wr.setCell ⟨gv, 1, none⟩ (.int .u64 2097152) = ws at HC1 HB1 ⊢
      clear hc1 hb1 cv1 fv1
      have cv1 : ws.cell? ⟨gv, 10, none⟩ = some (.int .u64 ((V.set 1 2097152).getD 10 0)) := u64_cell HB1.out (by rw [List.length_set]; omega)
      have fv1 := HB1.out.frozen 10
      go_upto_region 21 with fail
      have hc1 := set_chg ws gv 10 (.int .u64 3145792)
      have hb1 : Blk (ws.setCell ⟨gv, 10, none⟩ (.int .u64 3145792)) gv 46 (u64C ((V.set 1 2097152).set 10 3145792)).toArray := by rw [← u64C_set]; exact HB1.out.set_ 10 _
      have HC2 := hide hc1
      have HB2 := hide hb1
      generalize ws.setCell ⟨gv, 10, none⟩ (.int .u64 3145792) = wv at HC2 HB2 ⊢
      clear hc1 hb1 cv1 fv1
      have hchg : Chg (fun q => q = gv) w12 wv := (HVk.out.2.2.2.2.trans HC1.out (fun b q => .inl q)).trans HC2.out (fun b q => .inl q)
      have htk := take_ve hlv HVk.out.2.2.1
      have hall : ∀ v ∈ (V.set 1 2097152).set 10 3145792, U64 v := fun v hv => (List.mem_or_eq_of_mem_set hv).elim (fun q => (List.mem_or_eq_of_mem_set q).elim (HVk.out.2.1 v) (fun e => by rw [e]; unfold U64; omega)) (fun e => by rw [e]; unfold U64; omega)
      have hlen2 : ((V.set 1 2097152).set 10 3145792).length = 260 := by rw [List.length_set, List.length_set]; exact hlv
      generalize (V.set 1 2097152).set 10 3145792 = vs at HB2 htk hall hlen2
      have HSD := hide (HEN.out.vals vs hall hlen2 htk)
      have HVS := hide (And.intro hall hlen2)
      have hne1 : ∀ k, bothF Fc Fd k → ¬ (fun q => q = gv) k := fun k q e => by have := HGL.out k q; have e : k = gv := e; omega
      have HTW := hide (HT.out.far hchg hne1)
      have HX13 := hide (show Blk wv b13 _ _ from hchg.blk HB13.out.1 (fun e => by have := HLT.out.1; have e : b13 = gv := e; omega))
      have HX15 := hide (show Blk wv b15 _ _ from hchg.blk HB15.out.1 (fun e => by have := HLT.out.2.1; have e : b15 = gv := e; omega))
      have HE1 := hide (show EvsAt wv (fun q => gv ≤ q) (.slice A1 ne k1) x.evs from HEVx.out.chg hchg (fun b q => .inl (by have q : b = gv := q; omega)) (fun b q => .inl q))
      have HE3 := hide (show EvsAt wv (fun q => gv ≤ q) (.slice A3 ne k3) y.evs from HEVy.out.chg hchg (fun b q => .inl (by have q : b = gv := q; omega)) (fun b q => .inl q))
      have HU := hide (show Below w.heap.size w wv from HU12.out.trans (hchg.below (B := w.heap.size) (fun b q => by have q : b = gv := q; have := HLT.out.2.2; omega) HU12.out.size))
      have HWF := hide (And.intro HT.out.a.wf HT.out.b.wf)
      clear hchg htk hall hlen2 hne1 hlv HC1 HB1 HC2 HVk HT HEVx HEVy HB13 HB15 HU12 HGL HLT
      go_wp2_with fail
      go_loopw [19] (fun i wr => ∃ k : Nat, k ≤ 11 ∧ i = .int .i64 k ∧ Hid (Below wv.heap.size wv wr)) (fun i _ => 11 - (intOf i).toNat)
      case atStart => exact ⟨0, by omega, rfl, Below.refl _ _⟩
      case round =>
        obtain ⟨k, hk, rfl, HLP⟩ := hrel
        rename World => wq
        by_cases hk2 : k < 11
        · obtain ⟨v, hev1, hev2⟩ := HSD.out.reg HER.out k hk2
          have c13 : wq.cell? ⟨b13, k, none⟩ = some (.int .i64 (x.regs.getD k 0)) := (HLP.out.cell (p := ⟨b13, k, none⟩) HX13.out.lt).trans (src_reg HLx.out HX13.out hk2)
          have C15 := hide (src_reg HLy.out HX15.out hk2)
          generalize x.regs.getD k 0 = rx at hev1 c13
          generalize y.regs.getD k 0 = ry at hev2 C15
          have HV1 := hide hev1
          have HV2 := hide hev2
          have HRX := hide (And.intro (has_i64 HWF.out.1 (ev_has hev1)) (has_i64 HWF.out.2 (ev_has hev2)))
          clear hev1 hev2
          go_wp2_with fail
          refine (Eval_any rx HRX.out.1 wq (HTW.out.a.below HLP.out) (reads_u64 (HB2.out.below HLP.out HB2.out.lt) HVS.out.2) HVS.out.2 (Nat.le_refl _) (by omega) HVS.out.1).mono ?_
          rintro e wq2 ⟨rfl, hb⟩
          rw [HV1.out]
          dsimp only [resV]
          replace HLP := hide (HLP.out.trans (hb.mono HLP.out.size))
          have c15 : wq2.cell? ⟨b15, k, none⟩ = some (.int .i64 ry) := (HLP.out.cell (p := ⟨b15, k, none⟩) HX15.out.lt).trans C15.out
          clear hb c13
          go_upto_region 25 with fail
          go_wp2_with fail
          refine (Eval_any ry HRX.out.2 wq2 (HTW.out.b.below HLP.out) (reads_u64 (HB2.out.below HLP.out HB2.out.lt) HVS.out.2) HVS.out.2 (Nat.le_refl _) (by omega) HVS.out.1).mono ?_
          rintro e wq3 ⟨rfl, hb⟩
          rw [HV2.out]
          dsimp only [resV]
          replace HLP := hide (HLP.out.trans (hb.mono HLP.out.size))
          clear hb c15
          have hvv : (v != v) = false := by simp
          go_wp2
          go_roundw
          case measure => simp [intOf]; omega
          case rel => exact ⟨k + 1, by omega, by go_num, HLP.out⟩
        · obtain rfl : k = 11 := by omega
          clear hk hk2
          go_wp2_with fail
          go_loopw [24] (fun i wr => ∃ k : Nat, k ≤ ne ∧ i = .int .i64 k ∧ Hid (Below wv.heap.size wv wr)) (fun i _ => ne - (intOf i).toNat)
          case atStart => exact ⟨0, by omega, rfl, HLP.out⟩
          case round =>
            clear HLP
            obtain ⟨k, hk, rfl, HLP⟩ := hrel
            rename World => wz
            have c131 : wz.cell? ⟨b13, 11, none⟩ = some (.slice A1 ne k1) := (HLP.out.cell (p := ⟨b13, 11, none⟩) HX13.out.lt).trans (src_cell HLx.out HX13.out 0)
            by_cases hlt : k < ne
            · obtain ⟨ad1, e1, v1, rfl, hab1, hx1, hw1, hn1, hcl1⟩ := HE1.out.at_ hlt
              obtain ⟨ad2, e2, v2, rfl, hab2, hx2, hw2, hn2, hcl2⟩ := HE3.out.at_ hlt
              obtain ⟨hkk, hss, hev⟩ := HSD.out.ev HER.out k e1 e2 hx1 hx2
              have CL := hide (fun (W : World) (hW : Below wv.heap.size wv W) => (⟨(hW.cell (p := ⟨b13, 11, none⟩) HX13.out.lt).trans (src_cell HLx.out HX13.out 0), (hW.cell (p := ⟨b15, 11, none⟩) HX15.out.lt).trans (src_cell HLy.out HX15.out 0), fun j u hu => (hW.cell (by rw [block_of_add, block_of_add]; exact hab1)).trans (hcl1 j u hu), fun j u hu => (hW.cell (by rw [block_of_add, block_of_add]; exact hab2)).trans (hcl2 j u hu)⟩ : W.cell? ⟨b13, 11, none⟩ = some (.slice (some ad1) ne k1) ∧ W.cell? ⟨b15, 11, none⟩ = some (.slice (some ad2) ne k3) ∧ (∀ j u, (evC (e1, v1))[j]? = some u → W.cell? ((ad1.add (k * 6)).add j) = some u) ∧ (∀ j u, (evC (e2, v2))[j]? = some u → W.cell? ((ad2.add (k * 6)).add j) = some u)))
              have HKS := hide (And.intro hkk hss)
              have HEV := hide hev
              clear hab1 hx1 hw1 hn1 hcl1 hab2 hx2 hw2 hn2 hcl2 hkk hss hev c131
              have c131 := (CL.out wz HLP.out).1
              have ck : wz.cell? (ad1.add (k * 6)) = some (.int .i8 e1.kind) := by
                have := (CL.out wz HLP.out).2.2.1 0 _ rfl
                rwa [add_of_add, Nat.add_zero] at this
              obtain ⟨kd, hkd⟩ : ∃ q, e1.kind = q := ⟨_, rfl⟩
              rw [hkd] at ck
              have HKD := hide hkd
              clear hkd
              have hne64 := HNW.out
              cases hk2 : (kd == 2)
              rotate_left
              · go_wp2
                go_roundw
                case measure => simp [intOf]; omega
                case rel => exact ⟨k + 1, by omega, by go_num, HLP.out⟩
              have hkd2 : e1.kind ≠ 2 := by rw [HKD.out]; simpa using hk2
              obtain ⟨v, hev1, hev2⟩ := HEV.out hkd2
              have HV1 := hide hev1
              have HV2 := hide hev2
              have HRX := hide (And.intro (has_i64 HWF.out.1 (ev_has hev1)) (has_i64 HWF.out.2 (ev_has hev2)))
              have ca : wz.cell? ⟨(ad1.add (k * 6)).block, (ad1.add (k * 6)).off + 2, none⟩ = some (.int .i64 e1.a) := (CL.out wz HLP.out).2.2.1 2 _ rfl
              clear hev1 hev2 hkd2
              obtain ⟨a1, ha1⟩ : ∃ q, e1.a = q := ⟨_, rfl⟩
              rw [ha1] at HV1 HRX ca
              clear ha1
              go_upto_region 32 with fail
              go_wp2_with fail
              refine (Eval_any a1 HRX.out.1 wz (HTW.out.a.below HLP.out) (reads_u64 (HB2.out.below HLP.out HB2.out.lt) HVS.out.2) HVS.out.2 (Nat.le_refl _) (by omega) HVS.out.1).mono ?_
              rintro e wq2 ⟨rfl, hb⟩
              rw [HV1.out]
              dsimp only [resV]
              replace HLP := hide (HLP.out.trans (hb.mono HLP.out.size))
              clear hb c131 ck ca
              have c151 := (CL.out wq2 HLP.out).2.1
              have ca : wq2.cell? ⟨(ad2.add (k * 6)).block, (ad2.add (k * 6)).off + 2, none⟩ = some (.int .i64 e2.a) := (CL.out wq2 HLP.out).2.2.2 2 _ rfl
              obtain ⟨a2, ha2⟩ : ∃ q, e2.a = q := ⟨_, rfl⟩
              rw [ha2] at HV2 HRX ca
              clear ha2
              go_upto_region 33 with fail
              go_wp2_with fail
              refine (Eval_any a2 HRX.out.2 wq2 (HTW.out.b.below HLP.out) (reads_u64 (HB2.out.below HLP.out HB2.out.lt) HVS.out.2) HVS.out.2 (Nat.le_refl _) (by omega) HVS.out.1).mono ?_
              rintro e wq3 ⟨rfl, hb⟩
              rw [HV2.out]
              dsimp only [resV]
              replace HLP := hide (HLP.out.trans (hb.mono HLP.out.size))
              clear hb c151 ca
              go_upto_region 34 with fail
              obtain ⟨sz, hsz⟩ : ∃ q, e1.size = q := ⟨_, rfl⟩
              have hsz2 : e2.size = sz := by rw [← HKS.out.2]; exact hsz
              have c131 := (CL.out wq3 HLP.out).1
              have c151 := (CL.out wq3 HLP.out).2.1
              have cs1 : wq3.cell? ⟨(ad1.add (k * 6)).block, (ad1.add (k * 6)).off + 1, none⟩ = some (.int .i8 sz) := by
                have := (CL.out wq3 HLP.out).2.2.1 1 _ rfl
                rw [← hsz]
                exact this
              have cs2 : wq3.cell? ⟨(ad2.add (k * 6)).block, (ad2.add (k * 6)).off + 1, none⟩ = some (.int .i8 sz) := by
                have := (CL.out wq3 HLP.out).2.2.2 1 _ rfl
                rw [← hsz2]
                exact this
              have hvv : (v != v) = false := by simp
              have hzz : (sz != sz) = false := by simp
              clear hsz hsz2
              go_quiet (fail)
              have hbn := below_drewN HLP.out nq
              have HLQ := hide hbn
              clear c131 c151 cs1 cs2 hbn HLP
              generalize wq3.drewN nq = wq4 at HLQ ⊢
              go_wp2
              go_roundw
              case measure => simp [intOf]; omega
              case rel => exact ⟨k + 1, by omega, by go_num, HLQ.out⟩
            · obtain rfl : k = ne := by omega
              have hne64 := HNW.out
              go_wp2_with fail
              refine (wakes_any _).mono ?_
              rintro e w20 ⟨rfl, hb⟩
              have HQ := hide hb
              clear hb
              go_wp2
              go_ret
              exact ⟨rfl, HU.out.trans ((HLP.out.mono HU.out.size).trans (HQ.out.mono (Nat.le_trans HU.out.size HLP.out.size)))⟩
theorem entry_row (c : Int) (A : Option Addr) (n cap : Nat) (l : List ID) (block : Int) (A2 : Option Addr) (n2 c2 : Nat) (l2 : List Int) (hb : (Lit.int .i64 block).wf = true) (w : World) (hh : InsAt w w.heap.size A n l) (hc : n ≤ cap) (hm : n < 9223372036854775808)
    (hr2 : Reads w w.heap.size 1 A2 n2 (l2.map (Value.int .u64))) (hl2 : l2.length = n2) (hc2 : n2 ≤ c2) (hm2 : n2 < 9223372036854775808) :
    Calls Try.prog 4 #[.agg #[.int .i64 c, .slice A n cap], .int .i64 block, .slice A2 n2 c2] w fun e w' => e = .returned (.bool true) ∧ Below w.heap.size w w' :=
  entry_walk c A n cap l block A2 n2 c2 l2 w hh hc hm (by have := bounds_i64 hb; unfold I64; omega) hr2 hl2 hc2 hm2
end Go.Proofs.Ytepagfkkjlbipaa
