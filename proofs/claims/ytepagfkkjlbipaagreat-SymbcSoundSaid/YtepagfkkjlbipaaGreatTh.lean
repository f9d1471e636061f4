/-
  SymbcSound's through: one block, gone through from a snap on. Conditions: those written in each statement.
-/
import Derived.Test.YtepagfkkjlbipaaGreatKbf
set_option linter.unusedVariables false
set_option linter.unusedSimpArgs false
set_option maxHeartbeats 64000000
set_option maxRecDepth 100000
namespace Go.Proofs.YtepagfkkjlbipaaGreat
open Tryz
open Go.RowKit
theorem bcell {w w' : World} {p : Addr} {v : Value} (h : Below w.heap.size w w') (hc : w.cell? p = some v) : w'.cell? p = some v := by
 have hp : p.block < w.heap.size := by
  rcases Nat.lt_or_ge p.block w.heap.size with q | q
  ·exact q
  ·unfold World.cell? at hc
   simp [Array.getElem?_eq_none q] at hc
 exact (h.cell hp).trans hc
theorem u64C_len (V : List Int) : (u64C V).length = V.length := by unfold u64C; rw [List.length_map]
theorem run_ixsn {ad : Addr} {n cap k : Nat} (hk : k < n) (w : World) : (Instr.indexAt 29 (.slice (some ad) n cap) (.int .i64 (k : Int))).run prog w = .ok (.pointer (some (ad.add (k * 76)))) w := by
 go_simp
theorem run_ixbk {ad : Addr} {n cap k : Nat} (hk : k < n) (w : World) : (Instr.indexAt 38 (.slice (some ad) n cap) (.int .i64 (k : Int))).run prog w = .ok (.pointer (some (ad.add (k * 3)))) w := by
 go_simp
theorem run_ixev {ad : Addr} {n cap : Nat} (hk : 0 < n) (w : World) : (Instr.indexAt 32 (.slice (some ad) n cap) (.int .i64 0)).run prog w = .ok (.pointer (some ad)) w := by
 have := hk
 go_simp
theorem run_ixrg {ad : Addr} {i : Int} (hi : 0 ≤ i ∧ i ≤ 10) (w : World) : (Instr.indexAt 83 (.pointer (some ad)) (.int .i8 i)).run prog w = .ok (.pointer (some (ad.add i.toNat))) w := by
 obtain ⟨k, rfl⟩ : ∃ k : Nat, i = (k : Int) := ⟨i.toNat, by omega⟩
 have hk : k < 11 := by omega
 rw [Int.toNat_natCast]
 go_simp
 omega
theorem run_ixv {gv br : Nat} (hk : br < 70) (w : World) : (Instr.indexAt 26 (.slice (some ⟨gv, 0, none⟩) 260 260) (.int .i64 ((38 + 3 * br : Nat) : Int))).run prog w = .ok (.pointer (some ⟨gv, 38 + 3 * br, none⟩)) w := run_ixg (by omega) w
theorem chg_of_low {B : Nat} {w w' : World} (h : Below B w w') : Chg (fun b => B ≤ b) w w' := ⟨h.os, h.tape, h.output, h.size, fun i _ hn => h.block i (by omega)⟩
structure ThS (w : World) (gv b6 b16 base g : Nat) (F : Nat → Prop) (rr : RunD) (c : Int) (adp : Addr) (n cap : Nat) (l : List ID) (adb : Addr) (nb : Nat) (ada : Addr) (m1 : Nat) (pl : List Int) (ads : Addr) (ss : List SnD) (Ae : Option Addr) (ne ce : Nat) : Prop where
 pool : PoolAt w base F g rr.p
 fb : ∀ b, F b → b < gv
 pbox : Blk w b6 24 #[.int .i64 c, .slice (some adp) n cap]
 pb : b6 < gv
 sbox : Blk w b16 65 (srcC rr.regs (.slice Ae ne ce) rr.ex).toArray
 sb : b16 < gv
 ins : InsAt w gv (some adp) n l
 evs : EvsAt w (fun k => gv ≤ k) (.slice Ae ne ce) rr.evs
 blks : BksAt w gv (some adb) nb (blkL l)
 at_ : Reads w gv 1 (some ada) m1 (pl.map (Value.int .i64))
 sn : Reads w gv 76 (some ads) m1 (ss.flatMap snC)
section
variable {w w' : World} {gv b6 b16 base g n cap nb m1 ne ce : Nat} {F : Nat → Prop} {rr : RunD} {c : Int} {adp adb ada ads : Addr} {l : List ID} {pl : List Int} {ss : List SnD} {Ae : Option Addr}
theorem ThS.upto (h : ThS w gv b6 b16 base g F rr c adp n cap l adb nb ada m1 pl ads ss Ae ne ce) (hb : Below gv w w') : ThS w' gv b6 b16 base g F rr c adp n cap l adb nb ada m1 pl ads ss Ae ne ce :=
 ⟨h.pool.chg (chg_of_low hb) (fun b q r => by have := h.fb b q; omega), h.fb, (chg_of_low hb).blk h.pbox (by have := h.pb; omega), h.pb, (chg_of_low hb).blk h.sbox (by have := h.sb; omega), h.sb, ⟨h.ins.1, h.ins.2.1, h.ins.2.2.below hb⟩, h.evs.chg (chg_of_low hb) (fun b q => .inl q) (fun b q => .inl q), h.blks.below hb, h.at_.below hb, h.sn.below hb⟩
theorem ThS.endW {V : List Int} (h : ThS w gv b6 b16 base g F rr c adp n cap l adb nb ada m1 pl ads ss Ae ne ce) (hV : Blk w gv 31 (u64C V).toArray) (hl : V.length = 260) (hu : ∀ v ∈ V, U64 v) (hnb : nb < 1000) (hm : m1 < 1000) (hok : ∀ s ∈ ss, s.ok) : EndW w base g F rr.p (some adb) nb (blkL l) gv V (some ada) m1 pl (some ads) m1 ss :=
 have hle := Nat.le_of_lt hV.lt
 ⟨h.pool, h.blks.more hle, hnb, reads_u64 hV hl, hl, hu, h.at_.more hle, hm, h.sn.more hle, hok, rfl⟩
end
theorem blkL_few {l : List ID} (h : PrF l) : (blkL l).length ≤ 64 := by
 have hl := h.le
 have hp := h.pos
 rw [blkL_len]
 have := (blk_inv (begB_zero l) l.length hp).le
 omega
theorem place_eq (m : VM) (reg off : Int) : placeV m reg off = IntKind.u64.wrap (regV m.regs reg + IntKind.u64.wrap off) := by
 unfold placeV doU VM.reg regV
 rw [cut64, cut64, cut64]
 rfl
theorem Sg.regOk {l ins : List ID} {b f i : Nat} {x : ID} {q : List (Int × List Int)} {r0 : List Int} {j : Nat} {V : List Int} {Tj : List TrE} (hs : Sg l ins f r0 q j V Tj) {p : Int × List Int} (hp : q[j]? = some p) : RegOk p.2 := by
 have hlt := (List.getElem?_eq_some_iff.1 hp).1
 have h := hs.path hlt
 rw [List.drop_eq_getElem_cons hlt, (List.getElem?_eq_some_iff.1 hp).2] at h
 obtain ⟨_, _, _, _, ho⟩ := h.head
 exact ho
theorem TrAt.cut {w : World} {F : Nat → Prop} {ad : Addr} {n c : Nat} {x : TrE} {T : List TrE} (h : TrAt w F (.slice (some ad) n c) (x :: T)) : TrAt w F (.slice (if c = 1 then some ad else some ⟨ad.block, ad.off + 3, none⟩) (n - 1) (c - 1)) T := by
 obtain ⟨A, c', q, e, hc, hq, hr, hw⟩ := h
 injection e with e1 e2 e3
 subst e1 e3
 simp only [List.length_cons] at e2 hc hr
 cases q with
 | nil => simp at hq
 | cons p q =>
  simp only [List.map_cons, List.cons.injEq] at hq
  have e5 : (if c = 1 then some ad else some (⟨ad.block, ad.off + 3, none⟩ : Addr)) = (if c = 1 then some ad else some (ad.add 3)) := by simp [Addr.add]
  rw [e5]
  refine ⟨_, c - 1, q, by congr 1; omega, by omega, hq.2, ⟨?_, fun hn => ?_⟩, fun p' hp' => hw p' (List.mem_cons_of_mem _ hp')⟩
  ·have := hr.1
   rw [List.flatMap_cons, List.length_append] at this
   have h3 : (trC p).length = 3 := rfl
   omega
  ·obtain ⟨ad2, e6, hb, hf, hcl⟩ := hr.2 (by omega)
   obtain rfl := Option.some.inj e6
   rw [if_neg (by omega)]
   refine ⟨ad.add 3, rfl, by rw [block_of_add]; exact hb, by rw [block_of_add]; exact hf, fun j u hu => ?_⟩
   rw [add_of_add]
   refine hcl _ u ?_
   rw [List.flatMap_cons, List.getElem?_append_right (by show 3 ≤ 3 + j; omega)]
   rw [show 3 + j - (trC p).length = j by show 3 + j - 3 = j; omega]
   exact hu
theorem wpList_load_g {P : Program} {ops : Array Oper} {rest : List Oper} {o : Oper} {a : Act} {w : World} {Q : Exit → Act → World → Prop} (hw : Region.wanted o (yielded ops a.tmps) = true) (ty : TypeId) (x : Operand) (ho : o.op = .load ty x)
  (ad : Addr) (hx : a.eval x = .pointer (some ad)) (cs : List Value) (d : TypeDesc) (hc : ∀ j u, cs[j]? = some u → w.cell? (ad.add j) = some u) (hu : P.underlying ty = some d) (hd : aggD d = true) (hi : (P.info? ty).map (·.size) = some cs.length)
  (h : wpList P ops Q rest (a.put o.dst (.agg cs.toArray)) w) : wpList P ops Q (o :: rest) a w :=
 wpList_step fun K hK => by
  rw [if_pos hw]
  unfold Oper.wp execOp
  simp only [ho, hx, Instr.loadAt, Instr.sureAddr, Sem.run_bind, Sem.run_pure, Result.andThen_ok, run_loadVar_at w ad ty cs d hc hu hd hi]
  exact hK _ _ h
theorem add_one_eq (a : Addr) : a.add 1 = ⟨a.block, a.off + 1, none⟩ := by simp [Addr.add]
theorem make260 (w : World) : (Instr.makeSlice 26 (.int .i64 260) (.int .i64 260)).run prog w = .ok (.slice (some ⟨w.heap.size, 0, none⟩) 260 260) (w.alloc (.cells (u64C z260).toArray 31)) := by
 obtain ⟨iU, hiU, hzU, hsU, hbU⟩ := info_parts infU
 have := run_make_rowN (P := prog) 26 31 iU _ underlying26 hiU hzU .i64 .i64 260 260 (by omega) (by rw [hbU]; omega) (by omega) w
 rw [hsU] at this
 rw [cells_z260] at this
 exact this
theorem through_any (c : Int) (A : Option Addr) (n cap : Nat) (l : List ID) (Ab : Option Addr) (nb cb b : Nat) (A1 : Option Addr) (m1 c1 : Nat) (pl : List Int) (A2 : Option Addr) (c2 : Nat) (ss : List SnD) (At : Option Addr) (ct : Nat) (T : List TrE) (q : List (Int × List Int)) (ins : List ID) (f i : Nat) (x : ID) (r0 : List Int) (w : World)
  (hh : InsAt w w.heap.size A n l) (hc : n ≤ cap) (hm : n < 9223372036854775808) (hck : (chkP c l).2 = 0) (hbk : BksAt w w.heap.size Ab nb (blkL l)) (h1 : Reads w w.heap.size 1 A1 m1 (pl.map (Value.int .i64))) (h2 : Reads w w.heap.size 76 A2 m1 (ss.flatMap snC)) (hok : ∀ s ∈ ss, s.ok)
  (hp : Path l q T) (hq0 : q[0]? = some ((f : Int), r0)) (hpl : ∀ k, k < m1 → ∃ p, q[k]? = some p ∧ pl[k]? = some p.1 ∧ ∃ s, ss[k]? = some s ∧ s.regs = p.2) (hm1 : m1 ≤ q.length) (hm5 : m1 ≤ 500) (hB : BkN l b f i x) (hins : ins = insOf l (blkAt l b)) (hlong : ins.length ≤ m1) (hfin : ins.length < m1 ∨ (x.kind = 6 ∧ m1 = q.length)) (ht : TrAt w (fun _ => False) (.slice At T.length ct) T) :
  Calls prog 10 #[.agg #[.int .i64 c, .slice A n cap], .slice Ab nb cb, .int .i64 (b : Int), .slice A1 m1 c1, .slice A2 m1 c2, .slice At T.length ct] w fun e w' => e = .returned (.bool true) ∧ Below w.heap.size w w' := by
 have HSH := Hd (show SgH l ins b f i x q from ⟨PrF.of hck, hB, hins, Nat.le_trans hlong hm1, hfin.elim (fun z => .inl (by omega)) (fun z => .inr z.1)⟩)
 have hsp := HSH.out.pos
 obtain ⟨w1, hw1⟩ : ∃ z, w.alloc (.cells #[.int .i64 c, .slice A n cap] 24) = z := ⟨_, rfl⟩
 have hb0 : Below w.heap.size w w1 := by rw [← hw1]; exact (Below.refl _ w).alloc (Nat.le_refl _) _
 have HBP := Hd (show Blk w1 w.heap.size 24 #[.int .i64 c, .slice A n cap] by rw [← hw1]; exact Blk.new w 24 #[.int .i64 c, .slice A n cap])
 have HI := Hd (hh.up hb0 hb0.size)
 have HBK := Hd (hbk.up hb0 hb0.size)
 have HAT := Hd (show Reads w1 w1.heap.size 1 A1 m1 (pl.map (Value.int .i64)) from (h1.below hb0).more hb0.size)
 have HSN := Hd (show Reads w1 w1.heap.size 76 A2 m1 (ss.flatMap snC) from (h2.below hb0).more hb0.size)
 have HTR := Hd (show TrAt w1 (fun k => w1.heap.size ≤ k) (.slice At T.length ct) T from (ht.chg (H := fun _ => False) (G := fun k => w.heap.size ≤ k) (Chg.of_below hb0) (fun b z => z.elim) (fun b z => .inr z)).chg (H := fun _ => False) (Chg.refl _ _) (fun b z => z.elim) (fun b z => .inl (Nat.le_trans hb0.size z)))
 have HW := Hd hb0
 have HN := Hd (And.intro hc (And.intro hm hck))
 have HP := Hd (And.intro hp (And.intro hq0 (And.intro hpl (And.intro hm1 (And.intro hlong (And.intro hfin hok))))))
 have HM5 := Hd hm5
 obtain ⟨b6, hb6⟩ : ∃ q, w.heap.size = q := ⟨_, rfl⟩
 have HB6 := Hd hb6
 rw [hb6] at HBP
 have c60 : w1.cell? ⟨b6, 0, none⟩ = some (.int .i64 c) := HBP.out.cell 0
 have c61 : w1.cell? ⟨b6, 1, none⟩ = some (.slice A n cap) := HBP.out.cell 1
 clear hh hc hm hck hbk h1 h2 hok hp hq0 hpl hm1 hm5 hB hins hlong hfin ht hb0
 go_enter func10, ntmps10
 go_wp2_with fail
 refine (new_any _).mono ?_
 rintro e w2 ⟨g, F0, rfl, hp, hb⟩
 have HF := Hd (show ∀ b, F0 b → w1.heap.size ≤ b from fun b q => (hp.fb b q).1)
 have HB := Hd hb.size
 have HW2 := Hd hb
 have HQ := Hd (PG.refl hp)
 have hlt6 : b6 < w1.heap.size := HBP.out.lt
 have HL6 := Hd hlt6
 replace HBP := Hd (show Blk w2 b6 24 #[.int .i64 c, .slice A n cap] ∧ ¬ F0 b6 from ⟨HBP.out.below hb HBP.out.lt, fun q => by have := (hp.fb b6 q).1; omega⟩)
 have HIF := Hd (show InsF w2 F0 A n l from InsF.of_ins (HI.out.below hb) hb.size (fun k q => (hp.fb k q).1))
 clear hp hb c60 c61 hw1 hlt6
 go_upto_region 2 with fail
 go_wp2_with fail
 refine (start_any HQ.out.pool HB.out).mono ?_
 rintro e w3 ⟨rfl, F1, hp1⟩
 rw [start_empty] at hp1 ⊢
 replace HBP := Hd (hp1.blk HBP.out.1 HBP.out.2)
 replace HIF := Hd (show InsF w3 F1 A n l from HIF.out.chg hp1.chg (fun b q => .inl q) (fun b q => hp1.new b q))
 replace HQ := Hd (HQ.out.trans hp1)
 replace HB := Hd (Nat.le_trans HB.out hp1.chg.size)
 clear hp1
 go_upto_region 3 with (first
  | (refine wpList_store_new rfl 57 (.tmp 14) (.tmp 39) rfl _ (rgC R0) (.agg (rgC R0).toArray) (by rfl) (by rfl) rfl sizR (by rfl) (rgC_one _) ?_
     intro w4 Gz Lz Zz
     have HB14 := Hd Gz
     have HL14 := Hd Lz
     clear Gz Lz Zz)
  | fail)
 have hn14 : ¬ F1 w3.heap.size := fun q => by have := (HQ.out.pool.fb _ q).2; omega
 obtain ⟨b14, hb14⟩ : ∃ k, w3.heap.size = k := ⟨_, rfl⟩
 rw [hb14] at HB14 hn14 ⊢
 replace HB14 := Hd (And.intro HB14.out hn14)
 replace HBP := Hd (And.intro (HBP.out.1.below HL14.out HBP.out.1.lt) HBP.out.2)
 replace HIF := Hd (HIF.out.step HL14.out)
 replace HQ := Hd (HQ.out.step HL14.out)
 replace HB := Hd (Nat.le_trans HB.out HL14.out.size)
 have c60 : w4.cell? ⟨b6, 0, none⟩ = some (.int .i64 c) := HBP.out.1.cell 0
 have c61 : w4.cell? ⟨b6, 1, none⟩ = some (.slice A n cap) := HBP.out.1.cell 1
 clear hb14 HL14 hn14
 go_wp2_with (first
  | (refine wpList_load_at rfl 57 (.tmp 14) rfl ⟨b14, 0, none⟩ (by rfl) (rgC R0) _ (blk_list HB14.out.1) underlying57 rfl (sizR) ?_)
  | fail)
 have hR0 : ∀ r ∈ R0, I64 r := fun r hr => has_i64 P0_good.1 (P0_good.2.2 r hr)
 refine (srun_any HQ.out.pool HB.out c A n cap l HIF.out HN.out.1 HN.out.2.1 (b : Int) (by have h := (List.getElem?_eq_some_iff.1 HSH.out.bk.at_).1; have h2 := blkL_few HSH.out.pr; unfold I64; omega) R0 rfl hR0).mono ?_
 rintro e w5 ⟨es, F2, rfl, hp2, hev, ho⟩
 have hx1 := run_pool (k := 1950) P0 c l (b : Int) P0_mi
 have hx2 := run_regs (k := 1950) P0 c l (b : Int) P0_mi
 have HRUN := Hd (show ∀ V : List Int, V.length = 260 → (∀ v ∈ V, U64 v) → V.take 11 = r0 → RunVal V (runV P0 c l (b : Int) R0) (goVV V ⟨r0, [], 0⟩ ins) (endsV (mOf V r0 ins ins.length) x (nextOf (begB l) b i x)) from fun V h1 h2 h3 => Sg.run HSH.out HN.out.2.2 h1 h2 h3)
 obtain ⟨rr, hr1⟩ : ∃ r, runV P0 c l (b : Int) R0 = r := ⟨_, rfl⟩
 rw [hr1] at hx1 hx2 hp2 hev HRUN ⊢
 replace HBP := Hd (hp2.blk HBP.out.1 HBP.out.2)
 replace HQ := Hd (HQ.out.trans hp2)
 replace HB := Hd (Nat.le_trans HB.out hp2.chg.size)
 have HEV := Hd hev
 have HO := Hd ho
 have HX1 := Hd hx1
 have HRL := Hd hx2
 clear hp2 hev ho hx1 hx2 hr1 c60 c61 HIF
 go_upto_region 4 with (first
  | (refine wpList_store_new rfl 65 (.tmp 16) (.tmp 47) rfl _ (srcC rr.regs es rr.ex) (.agg (srcC rr.regs es rr.ex).toArray) (by rfl) (by rfl) rfl (by rw [srcC_len HRL.out]; exact sizS) (by rw [srcC_len HRL.out]; rfl) (srcC_one HO.out _) ?_
     intro w6 Gz Lz Zz
     have HB16 := Hd Gz
     have HL16 := Hd Lz
     clear Gz Lz Zz)
  | fail)
 have hn16 : ¬ F2 w5.heap.size := fun q => by have := (HQ.out.pool.fb _ q).2; omega
 obtain ⟨b16, hb16⟩ : ∃ k, w5.heap.size = k := ⟨_, rfl⟩
 rw [hb16] at HB16 hn16 ⊢
 have HN16 := Hd hn16
 replace HBP := Hd (And.intro (HBP.out.1.below HL16.out HBP.out.1.lt) HBP.out.2)
 replace HEV := Hd (HEV.out.step HL16.out)
 replace HQ := Hd (HQ.out.step HL16.out)
 replace HB := Hd (Nat.le_trans HB.out HL16.out.size)
 clear hb16 HL16 hn16
 -- the values at first, and what Run answers
 obtain ⟨s0, hs0⟩ : ∃ s, ss[0]? = some s ∧ s.regs = r0 := by
  obtain ⟨p, hp1, _, s, hs1, hs2⟩ := HP.out.2.2.1 0 (by have := HP.out.2.2.2.2.1; omega)
  rw [HP.out.2.1] at hp1
  obtain rfl := Option.some.inj hp1
  exact ⟨s, hs1, hs2⟩
 have HS0 := Hd hs0
 clear hs0
 have hr11 : r0.length = 11 ∧ ∀ v ∈ r0, U64 v := by
  have hp := HP.out.1
  obtain ⟨p, t, e⟩ : ∃ p t, q = p :: t := by
   cases q with
   | nil => have := HP.out.2.1; simp at this
   | cons p t => exact ⟨p, t, rfl⟩
  rw [e] at hp
  obtain ⟨_, _, _, _, ho⟩ := hp.head
  have := HP.out.2.1
  rw [e] at this
  obtain rfl : p = ((f : Int), r0) := by simpa using this
  exact ho
 have HR11 := Hd hr11
 clear hr11
 have he0 : rr.err = 0 := by
  have hv : (r0 ++ List.replicate 249 (0 : Int)).length = 260 := by rw [List.length_append, List.length_replicate, HR11.out.1]
  refine (HRUN.out (r0 ++ List.replicate 249 0) hv (fun v h => ?_) ?_).err
  ·rcases List.mem_append.1 h with h | h
   ·exact HR11.out.2 v h
   ·rw [List.eq_of_mem_replicate h]; unfold U64; omega
  ·rw [List.take_append_of_le_length (by rw [HR11.out.1]; exact Nat.le_refl _), List.take_of_length_le (by rw [HR11.out.1]; exact Nat.le_refl _)]
 rw [he0]
 clear he0
 obtain ⟨ada, _, rfl, _, _, _⟩ := HAT.out.at_ (k := 0) (by have := HP.out.2.2.2.2.1; omega)
 obtain ⟨ads, rfl, _, _⟩ := sn_cell HSN.out HP.out.2.2.2.2.2.2 HS0.out.1 (by have := HP.out.2.2.2.2.1; omega)
 obtain ⟨Ae, ce, hes, hce⟩ := HEV.out.form
 obtain ⟨ne, hne⟩ : ∃ z, rr.evs.length = z := ⟨_, rfl⟩
 rw [hne] at hes
 subst hes
 have HNE := Hd (And.intro hne (show ne ≤ 64 by rw [← hne]; exact HX1.out.2))
 clear hne hce
 obtain ⟨bk0, hbk0⟩ : ∃ y, (blkL l)[b]? = some y := ⟨_, HSH.out.bk.at_⟩
 have hbn : b < nb := by have := HBK.out.len; have := (List.getElem?_eq_some_iff.1 hbk0).1; omega
 have HBN := Hd hbn
 obtain ⟨adb, _, _, rfl, _, _, _, _, _⟩ := HBK.out.at_ hbn
 clear hbk0 hbn
 obtain ⟨adp, _, rfl, _, _, _, _⟩ := HI.out.at_ (k := i) (by have := HI.out.1; have := HSH.out.bk.in_; omega)
 have mk := make260
 go_upto_region 8 with fail
 have hX := Blk.new w6 31 (u64C z260).toArray
 have hL : Below w6.heap.size w6 (w6.alloc (.cells (u64C z260).toArray 31)) := (Below.refl _ _).alloc (Nat.le_refl _) _
 have hw16 : Below w1.heap.size w1 w6 := HW2.out.trans (HQ.out.chg.below (B := w1.heap.size) (fun b z => HF.out b z) HW2.out.size)
 have hth : ThS w6 w6.heap.size b6 b16 w1.heap.size g F2 rr c adp n cap l adb nb ada m1 pl ads ss Ae ne ce :=
  ⟨HQ.out.pool, fun b z => (HQ.out.pool.fb b z).2, HBP.out.1, HBP.out.1.lt, HB16.out, HB16.out.lt, ⟨HI.out.1, HI.out.2.1, (HI.out.2.2.below hw16).more hw16.size⟩, HEV.out.chg (H := fun _ => False) (Chg.refl _ _) (fun b z => z.elim) (fun b z => .inr z), (HBK.out.below hw16).more hw16.size, (HAT.out.below hw16).more hw16.size, (HSN.out.below hw16).more hw16.size⟩
 have htr : TrAt w6 (fun k => w6.heap.size ≤ k) (.slice At T.length ct) T := (HTR.out.chg (H := fun k => w1.heap.size ≤ k) (G := fun k => w1.heap.size ≤ k) (chg_of_low hw16) (fun b z => .inl z) (fun b z => .inl z)).chg (H := fun _ => False) (G := fun k => w6.heap.size ≤ k) (Chg.refl _ _) (fun b z => z.elim) (fun b z => .inr z)
 have hww : Below w.heap.size w w6 := HW.out.trans (hw16.mono HW.out.size)
 obtain ⟨gv, hgv⟩ : ∃ z, w6.heap.size = z := ⟨_, rfl⟩
 rw [hgv] at hth htr hX hL ⊢
 have HGV := Hd (show w.heap.size ≤ gv by rw [← hgv]; exact hww.size)
 generalize w6.alloc (.cells (u64C z260).toArray 31) = w7 at hX hL ⊢
 have HX := Hd hX
 have HTH := Hd (hth.upto hL)
 have HTV := Hd (show TrAt w7 (fun k => gv ≤ k) (.slice At T.length ct) T from htr.chg (H := fun k => gv ≤ k) (chg_of_low hL) (fun b z => .inl z) (fun b z => .inl z))
 have HWW := Hd (hww.trans (hL.mono HGV.out))
 clear hX hL hth htr hww hw16 hgv HBK HAT HSN HI HBP HEV HQ HB HW HW2 HF HTR HB14 HB16 HO mk HN16 HL6
 go_loopw [19] (fun i wr => ∃ (k : Nat) (V : List Int), k ≤ 11 ∧ i = .int .i64 (k : Int) ∧ Hid (V.length = 260 ∧ (∀ v ∈ V, U64 v) ∧ (∀ j, j < k → V.getD j 0 = r0.getD j 0) ∧ Blk wr gv 31 (u64C V).toArray ∧ Below gv w7 wr)) (fun i _ => 11 - (intOf i).toNat)
 case atStart => exact ⟨0, z260, by omega, rfl, rfl, (fun v hv => by rw [List.eq_of_mem_replicate hv]; unfold U64; omega), (fun j h => absurd h (Nat.not_lt_zero _)), HX.out, Below.refl _ _⟩
 case round =>
  obtain ⟨k, V, hk, rfl, HV⟩ := hrel
  rename World => wr
  have hlv := HV.out.1
  by_cases hlt : k < 11
  ·have cv : wr.cell? ⟨gv, k, none⟩ = some (.int .u64 (V.getD k 0)) := u64_cell HV.out.2.2.2.1 (by omega)
   have fv := HV.out.2.2.2.1.frozen k
   obtain ⟨ads2, e2, _, hsc⟩ := sn_cell (HTH.out.upto HV.out.2.2.2.2).sn HP.out.2.2.2.2.2.2 HS0.out.1 (by have := HP.out.2.2.2.2.1; omega)
   obtain rfl : ads = ads2 := Option.some.inj e2
   have cs := hsc k hlt
   rw [HS0.out.2, Nat.zero_mul] at cs
   have cs : wr.cell? (ads.add k) = some (.int .u64 (r0.getD k 0)) := by rwa [add_of_add, Nat.zero_add] at cs
   obtain ⟨v, hv⟩ : ∃ z, r0.getD k 0 = z := ⟨_, rfl⟩
   rw [hv] at cs
   have HVE := Hd hv
   have hm1 : 0 < m1 := by have := HP.out.2.2.2.2.1; omega
   clear hsc e2 hv
   go_wp2_with fail
   have hch : Below gv wr (wr.setCell ⟨gv, k, none⟩ (.int .u64 v)) := Chg.below (F := fun b => b = gv) (chg_setCell (c := ⟨gv, k, none⟩) rfl _ rfl) (fun b e => Nat.le_of_eq e.symm) (Nat.le_of_lt HV.out.2.2.2.1.lt)
   have HN2 := Hd (show (V.set k v).length = 260 ∧ (∀ u ∈ V.set k v, U64 u) ∧ (∀ j, j < k + 1 → (V.set k v).getD j 0 = r0.getD j 0) ∧ Blk (wr.setCell ⟨gv, k, none⟩ (.int .u64 v)) gv 31 (u64C (V.set k v)).toArray ∧ Below gv w7 (wr.setCell ⟨gv, k, none⟩ (.int .u64 v)) from ⟨by rw [List.length_set]; exact hlv, fun u hu => (List.mem_or_eq_of_mem_set hu).elim (HV.out.2.1 u) (fun e => by
     rw [e, ← HVE.out, List.getD_eq_getElem?_getD]
     cases hq : r0[k]? with
     | none => show U64 0; unfold U64; omega
     | some z => exact HR11.out.2 z (List.mem_of_getElem? hq)), fun j hj => by
     rw [getD_set V k j v (by omega)]
     split
     ·rename_i e; rw [← e]; exact HVE.out.symm
     ·exact HV.out.2.2.1 j (by omega), by rw [← u64C_set]; exact HV.out.2.2.2.1.set_ k _, HV.out.2.2.2.2.trans hch⟩)
   generalize wr.setCell ⟨gv, k, none⟩ (.int .u64 v) = ws at HN2 ⊢
   clear cv fv cs hch
   go_roundw
   case measure => simp [intOf]; omega
   case rel => exact ⟨k + 1, _, by omega, by go_num, HN2.out⟩
  ·have hk11 : (k : Int) = 11 := by omega
   rw [hk11]
   have ht11 : V.take 11 = r0 := by
    refine List.ext_getElem (by rw [List.length_take, hlv, HR11.out.1]; rfl) fun i h1 h2 => ?_
    have := HV.out.2.2.1 i (by rw [HR11.out.1] at h2; omega)
    rw [List.getElem_take]
    rw [List.getD_eq_getElem?_getD, List.getD_eq_getElem?_getD, List.getElem?_eq_getElem (by rw [HR11.out.1] at h2; omega), List.getElem?_eq_getElem h2] at this
    exact this
   have HSG := Hd (Sg.start (r := r0) HSH.out HP.out.2.1 HP.out.1 hlv HV.out.2.1 ht11)
   have HTS := Hd (HTH.out.upto HV.out.2.2.2.2)
   have HTT := Hd (show TrAt wr (fun k => gv ≤ k) (.slice At T.length ct) T from HTV.out.chg (H := fun k => gv ≤ k) (chg_of_low HV.out.2.2.2.2) (fun b z => .inl z) (fun b z => .inl z))
   replace HWW := Hd (HWW.out.trans (HV.out.2.2.2.2.mono HGV.out))
   have HBV := Hd HV.out.2.2.2.1
   clear ht11 hlv HV HTH HTV HX hk hlt hk11
   obtain ⟨sz, hsz⟩ : ∃ z, ins.length = z := ⟨_, rfl⟩
   have HZ0 := Hd hsz
   have HSZ := Hd (show (i : Int) + 1 - (f : Int) = (sz : Int) ∧ sz ≤ 64 ∧ 0 < sz ∧ i < 64 ∧ f < 64 by have h1 := HSH.out.len; have h2 := HSH.out.bk.le; have h3 := HSH.out.bk.in_; have h4 := HSH.out.pr.le; omega)
   have hbb : ∃ sx, NxAt wr wr.heap.size sx (nextOf (begB l) b i x) ∧ ∀ j u, (bkC ((⟨(f : Int), (i : Int) + 1, nextOf (begB l) b i x⟩ : BD), sx))[j]? = some u → wr.cell? ((adb.add (b * 3)).add j) = some u := by
    obtain ⟨ad2, bx, sx, e2, _, hx, _, hn, hcl⟩ := (HTS.out.blks.more (Nat.le_of_lt HBV.out.lt)).at_ HBN.out
    obtain rfl := Option.some.inj e2
    rw [HSH.out.bk.at_] at hx
    obtain rfl := Option.some.inj hx
    exact ⟨sx, hn, hcl⟩
   obtain ⟨sx, _, hbc⟩ := hbb
   have KT := Hd (show wr.cell? ⟨(adb.add (b * 3)).block, (adb.add (b * 3)).off + 1, none⟩ = some (.int .i64 ((i : Int) + 1)) from by
    have h := hbc 1 _ rfl
    rwa [add_one_eq] at h)
   have KF := Hd (show wr.cell? (adb.add (b * 3)) = some (.int .i64 (f : Int)) by
    have := hbc 0 _ rfl
    rwa [add_of_add, Nat.add_zero] at this)
   clear hbc hsz
   go_upto_region 12 with fail
   refine wp_region_E (fun w' => Below wr.heap.size wr w') (fun _ => True) [] (by kernel_rfl) ?_
   have HT := Hd ((Below.refl wr.heap.size wr).drew)
   generalize wr.drew = Wd at HT ⊢
   refine em 0 (.slice (some adb) nb cb) (bT HT) ?_
   refine em 1 (.int .i64 (b : Int)) (bT HT) ?_
   refine ex 2 (.slice (some adb) nb cb) (.int .i64 (b : Int)) (.pointer (some (adb.add (b * 3)))) (run_ixbk HBN.out) (bT HT) ?_
   refine E_field 3 (some 78) 44 _ 1 (adb.add (b * 3)) ⟨(adb.add (b * 3)).block, (adb.add (b * 3)).off + 1, none⟩ rfl (by kernel_rfl) (by rfl) (fun _ _ _ h => h) (by rfl) (fun w => by go_simp) (bT HT) ?_
   simp only [pt, pn, sL]
   refine el false 4 ⟨(adb.add (b * 3)).block, (adb.add (b * 3)).off + 1, none⟩ (.int .i64 ((i : Int) + 1)) underlying3 (fun w hS => (bcell hS.1 KT.out)) (bT HT) ?_
   refine em 5 (.slice (some adb) nb cb) (bT HT) ?_
   refine em 6 (.int .i64 (b : Int)) (bT HT) ?_
   refine ex 7 (.slice (some adb) nb cb) (.int .i64 (b : Int)) (.pointer (some (adb.add (b * 3)))) (run_ixbk HBN.out) (bT HT) ?_
   refine E_field 8 (some 83) 44 _ 0 (adb.add (b * 3)) (adb.add (b * 3)) rfl (by kernel_rfl) (by rfl) (fun _ _ _ h => h) (by rfl) (fun w => by go_simp) (bT HT) ?_
   simp only [pt, pn, sL]
   refine el false 9 (adb.add (b * 3)) (.int .i64 (f : Int)) underlying3 (fun w hS => (bcell hS.1 KF.out)) (bT HT) ?_
   refine eb 10 (.int .i64 (sz : Int)) rfl (fun o e w _ => by unfold execOp; simp only [e]; go_simp; have := HSZ.out; rw [wrap_in (by omega)]; congr 1; omega) (bT HT) ?_
   refine eS 11 (.int .i64 (sz : Int)) (bT HT) ?_
   refine wpAnyE_done (by kernel_rfl) ?_ _
   replace HTS := Hd (HTS.out.upto (HT.out.mono (Nat.le_of_lt HBV.out.lt)))
   replace HTT := Hd (show TrAt Wd (fun k => gv ≤ k) (.slice At T.length ct) T from HTT.out.chg (H := fun _ => False) (Chg.of_below HT.out) (fun b z => z.elim) (fun b z => .inl z))
   replace HWW := Hd (HWW.out.trans (HT.out.mono HWW.out.size))
   replace HBV := Hd (HBV.out.below HT.out HBV.out.lt)
   clear KT KF HT
   obtain ⟨nT, hnT⟩ : ∃ z, T.length = z := ⟨_, rfl⟩
   rw [hnT] at HTT ⊢
   have HNT := Hd hnT
   clear hnT
   go_wp2_with fail
   go_loopw [5, 20, 21, 23] (fun tv nv bv iv wr => ∃ (j n' br nt : Nat) (V : List Int) (Tj : List TrE) (At' : Option Addr) (ct' : Nat), tv = .slice At' nt ct' ∧ nv = .int .i64 (n' : Int) ∧ bv = .int .i64 (br : Int) ∧ iv = .int .i64 (j : Int) ∧ j ≤ sz ∧ Hid (n' = (mOf V r0 ins j).evs.length ∧ br = (mOf V r0 ins j).n ∧ nt = Tj.length ∧ Sg l ins f r0 q j V Tj ∧ TrAt wr (fun k => gv ≤ k) (.slice At' nt ct') Tj ∧ ThS wr gv b6 b16 w1.heap.size g F2 rr c adp n cap l adb nb ada m1 pl ads ss Ae ne ce ∧ Blk wr gv 31 (u64C V).toArray ∧ Below w.heap.size w wr)) (fun _ _ _ iv _ => sz - (intOf iv).toNat)
   case atStart => exact ⟨0, 0, 0, nT, V, T, At, ct, rfl, rfl, rfl, rfl, by omega, rfl, rfl, HNT.out.symm, HSG.out, HTT.out, HTS.out, HBV.out, HWW.out⟩
   case round =>
    clear HSG HTS HTT HWW HBV HNT
    obtain ⟨j, n', br, nt, V, Tj, At', ct', rfl, rfl, rfl, rfl, hjz, HX⟩ := hrel
    rename World => wr
    have HM1 := Hd (And.intro HX.out.1 (And.intro HX.out.2.1 HX.out.2.2.1))
    have HSG := Hd HX.out.2.2.2.1
    have HTT := Hd HX.out.2.2.2.2.1
    have HTS := Hd HX.out.2.2.2.2.2.1
    have HBV := Hd HX.out.2.2.2.2.2.2.1
    have HWW := Hd HX.out.2.2.2.2.2.2.2
    clear HX
    have hz64 : sz ≤ 64 := HSZ.out.2.1
    by_cases hlt : j < sz
    ·have hjl : j < ins.length := by rw [HZ0.out]; exact hlt
     obtain ⟨y, hy⟩ : ∃ y, ins[j]? = some y := ⟨_, List.getElem?_eq_getElem hjl⟩
     obtain ⟨pj, hq1, hpl1, sj, hsj1, hsj2⟩ := HP.out.2.2.1 j (by have := HP.out.2.2.2.2.1; omega)
     have hplc := HSG.out.place pj hq1 hjl
     obtain ⟨fj, hfj⟩ : ∃ z, f + j = z := ⟨_, rfl⟩
     have hyl : l[fj]? = some y := by rw [← hfj, ← HSH.out.at_ hjl]; exact hy
     have HMF := Hd (may_facts (x := y) (by have := HSH.out.pr.ok fj y hyl; unfold okAt at this; simp only [Bool.and_eq_true] at this; exact this.1))
     have HJM := Hd (show j < m1 by have := HP.out.2.2.2.2.1; omega)
     have HFJ := Hd (show fj < n by have := HTS.out.ins.1; have := (List.getElem?_eq_some_iff.1 hyl).1; omega)
     have KP := Hd (show wr.cell? ⟨b6, 1, none⟩ = some (.slice (some adp) n cap) from HTS.out.pbox.cell 1)
     have KA := Hd (show wr.cell? (ada.add j) = some (.int .i64 (fj : Int)) by
      obtain ⟨ad2, u, e2, _, hu, hcu⟩ := HTS.out.at_.at_ HJM.out
      obtain rfl := Option.some.inj e2
      rw [List.getElem?_map, hpl1, hplc, hfj] at hu
      obtain rfl := Option.some.inj hu
      exact hcu)
     have KY := Hd (show ∀ k u, y.cells[k]? = some u → wr.cell? ((adp.add (fj * 9)).add k) = some u by
      obtain ⟨ad2, y2, e2, _, hy2, _, hcl⟩ := HTS.out.ins.at_ HFJ.out
      obtain rfl := Option.some.inj e2
      rw [hyl] at hy2
      obtain rfl := Option.some.inj hy2
      exact hcl)
     have HYI := Hd (And.intro hy (And.intro hjl (And.intro hq1 (And.intro hsj1 hsj2))))
     clear hy hpl1 hplc hyl hq1 hsj1 hsj2 hjl
     go_upto_region 16 with fail
     refine wp_region_E (fun w' => Below wr.heap.size wr w') (fun _ => True) [] (by kernel_rfl) ?_
     have HT := Hd ((Below.refl wr.heap.size wr).drew)
     generalize wr.drew = Wd at HT ⊢
     refine ef 0 ⟨b6, 0, none⟩ ⟨b6, 1, none⟩ (bT HT) ?_
     refine el false 1 ⟨b6, 1, none⟩ (.slice (some adp) n cap) underlying22 (fun w hS => (bcell hS.1 KP.out)) (bT HT) ?_
     refine em 2 (.slice (some ada) m1 c1) (bT HT) ?_
     refine em 3 (.int .i64 (j : Int)) (bT HT) ?_
     refine ex 4 (.slice (some ada) m1 c1) (.int .i64 (j : Int)) (.pointer (some (ada.add j))) (run_ixs rfl HJM.out) (bT HT) ?_
     refine el false 5 (ada.add j) (.int .i64 (fj : Int)) underlying3 (fun w hS => (bcell hS.1 KA.out)) (bT HT) ?_
     refine ex 6 (.slice (some adp) n cap) (.int .i64 (fj : Int)) (.pointer (some (adp.add (fj * 9)))) (run_ixIns HFJ.out) (bT HT) ?_
     refine eL false 7 (adp.add (fj * 9)) y.cells (fun w hS => fun j u hu => bcell hS.1 (KY.out j u hu)) underlying47 sizIn (bT HT) ?_
     refine E_one 8 (by kernel_rfl) (StepE.run 8 (some 24) _ (.pointer (some ⟨Wd.heap.size, 0, none⟩)) (Wd.alloc (.cells zIns.toArray 47)) rfl (by rfl) (fun o e => by unfold execOp; simp only [e]; go_simp; rfl) (.both (HT.out.alloc HT.out.size _) trivial) ?_)
     simp only [pt, pn, sL]
     have hz := Blk.new Wd 47 zIns.toArray
     have hb := HT.out.alloc HT.out.size (.cells zIns.toArray 47)
     have hle := HT.out.size
     generalize Wd.alloc (.cells zIns.toArray 47) = We at hz hb ⊢
     have HZ := Hd hz
     replace HT := Hd hb
     obtain ⟨b24, hb24⟩ : ∃ q, Wd.heap.size = q := ⟨_, rfl⟩
     rw [hb24] at HZ hle ⊢
     have H24 := Hd hle
     clear hz hb hb24 hle
     refine E_one 9 (by kernel_rfl) (StepE.store_whole 9 47 _ _ b24 zIns y.cells rfl (by rfl) HZ.out (by rfl) (by rfl) sizIn (by rw [ID.cells_len]; rfl) (ID.one _) ?_)
     intro wT hx2 hg2
     replace HT := Hd (HT.out.grown hg2 HT.out.size (fun k e => by have e := Option.some.inj e; rw [← e]; exact H24.out))
     have HX24 := Hd hx2
     clear hx2 hg2
     refine ⟨.both HT.out trivial, ?_⟩
     simp only [pt, pn, sL]
     refine wpAnyE_done (by kernel_rfl) ?_ _
     have hgvle : gv ≤ wr.heap.size := Nat.le_of_lt HBV.out.lt
     replace HTS := Hd (HTS.out.upto (HT.out.mono hgvle))
     replace HTT := Hd (show TrAt wT (fun k => gv ≤ k) (.slice At' nt ct') Tj from HTT.out.chg (H := fun _ => False) (Chg.of_below HT.out) (fun b z => z.elim) (fun b z => .inl z))
     replace HWW := Hd (HWW.out.trans (HT.out.mono HWW.out.size))
     have HGB := Hd (show gv < b24 from Nat.lt_of_lt_of_le HBV.out.lt H24.out)
     replace HBV := Hd (HBV.out.below HT.out HBV.out.lt)
     clear KP KA KY HT HZ H24 hgvle
     obtain ⟨kd, hkd⟩ : ∃ z, y.kind = z := ⟨_, rfl⟩
     have k24 : wT.cell? ⟨b24, 0, none⟩ = some (.int .i8 kd) := by rw [← hkd]; exact HX24.out.cell 0
     have HKD := Hd hkd
     clear hkd
     cases hev : evB y
     ·-- CASE skip
      as_aux_lemma =>
       have hk3 : (kd != 1) = true ∧ (kd != 2) = true ∧ (kd != 5) = true := by
        have e := HKD.out
        unfold evB at hev
        rw [e] at hev
        simp only [Bool.or_eq_false_iff, beq_eq_false_iff_ne] at hev
        simp [bne_iff_ne, hev]
       obtain ⟨q1, q2, q3⟩ := hk3
       have HEVB := Hd hev
       clear hev
       have hnx : ∃ Tj', nt = Tj'.length ∧ TrAt wT (fun k => gv ≤ k) (.slice At' nt ct') Tj' ∧ Sg l ins f r0 q (j + 1) V Tj' := by
        have hk15 : ¬ (y.kind = 1 ∨ y.kind = 5) := by
         have := HEVB.out
         unfold evB at this
         simp only [Bool.or_eq_false_iff, beq_eq_false_iff_ne] at this
         omega
        rcases Nat.lt_or_ge (j + 1) q.length with hq | hq
        ·obtain ⟨p, p', tr, T', _, _, eT, _, _, _, hst, _, h1, _, _⟩ := HSG.out.step HSH.out HYI.out.2.1 HYI.out.1 hq HMF.out
         have htr : tr = [] := by
          rcases hst with ⟨_, _, _, e⟩ | ⟨_, _, _, e⟩ | ⟨_, _, _, e⟩ | ⟨_, _, _, e⟩ | ⟨_, _, _, e⟩ | ⟨k, _⟩
          ·exact e
          ·exact e
          ·exact e
          ·exact e
          ·exact e
          ·omega
         rw [htr, List.nil_append] at eT
         exact ⟨T', by rw [← eT]; exact HM1.out.2.2, by rw [← eT]; exact HTT.out, h1 hk15⟩
        ·have hjq : j + 1 = ins.length := by have := HYI.out.2.1; have := HSH.out.long; omega
         exact ⟨Tj, HM1.out.2.2, HTT.out, (HSG.out.last HSH.out hjq hq).2.2⟩
       obtain ⟨Tj', hn1, hn2, hn3⟩ := hnx
       have hen := Sg.evs_next (V := V) (r0 := r0) V HYI.out.1 rfl
       have HNX := Hd (And.intro hn1 (And.intro hn2 hn3))
       have HEN := Hd (show n' = (mOf V r0 ins (j + 1)).evs.length ∧ br = (mOf V r0 ins (j + 1)).n from ⟨by rw [hen.1, HEVB.out]; simp; exact HM1.out.1, by
        rw [hen.2, if_neg (by
         have := HEVB.out
         unfold evB at this
         simp only [Bool.or_eq_false_iff, beq_eq_false_iff_ne] at this
         omega)]
        exact HM1.out.2.1⟩)
       clear hn1 hn2 hn3 hen
       go_wp2_with fail
       go_roundw
       case measure => simp [intOf]; omega
       case rel => exact ⟨j + 1, n', br, nt, V, Tj', At', ct', rfl, rfl, rfl, by go_num, by omega, Hd ⟨HEN.out.1, HEN.out.2, HNX.out.1, HNX.out.2.2, HNX.out.2.1, HTS.out, HBV.out, HWW.out⟩⟩
     ·-- CASE event
      have hk3 : kd = 1 ∨ kd = 2 ∨ kd = 5 := by
       have e := HKD.out
       unfold evB at hev
       rw [e] at hev
       simpa using hev
      have HK3 := Hd hk3
      have HEVB := Hd hev
      obtain ⟨ev, he1, he2⟩ := Sg.ev (HRUN.out V HSG.out.len HSG.out.u64 HSG.out.t11) HYI.out.1 hev
      rw [← HM1.out.1] at he1
      have hnn : n' < ne := by have := (List.getElem?_eq_some_iff.1 he1).1; have := HNE.out.1; omega
      obtain ⟨aev, e2, va, hAe, _, hx2, _, hva, hcl⟩ := HTS.out.evs.at_ hnn
      obtain rfl : e2 = ev := by rw [he1] at hx2; exact (Option.some.inj hx2).symm
      subst hAe
      obtain ⟨Ag, cg, rfl⟩ := hva.form
      obtain ⟨ng, hng⟩ : ∃ z, e2.args.length = z := ⟨_, rfl⟩
      rw [hng] at hva hcl
      rename EvD => ev
      have HNG := Hd (And.intro hng hva.len)
      have HVA := Hd (show NumsF wT (fun k => gv ≤ k) (.slice Ag ng cg) ev.args from hva)
      have KEV := Hd (show ∀ j u, (evC (ev, .slice Ag ng cg))[j]? = some u → wT.cell? ((aev.add (n' * 6)).add j) = some u from hcl)
      have HEV := Hd he2
      have cse : wT.cell? ⟨b16, 11, none⟩ = some (.slice (some aev) ne ce) := src_cell HRL.out HTS.out.sbox 0
      have g1 : decide ((ne : Int) ≤ (n' : Int)) = false := by rw [decide_eq_false_iff_not]; omega
      have g2 : decide (ne ≤ n') = false := by rw [decide_eq_false_iff_not]; omega
      have hne64 := HNE.out.2
      have hk17 : ((kd != 1) = false ∨ (kd != 2) = false ∨ (kd != 5) = false) := by rcases hk3 with e | e | e <;> rw [e] <;> simp
      clear hev he1 he2 hx2 hva hcl hng
      obtain ⟨r, hr⟩ : ∃ z, pj.2 = z := ⟨_, rfl⟩
      have HR := Hd (show (mOf V r0 ins j).regs = r by rw [← hr]; exact HSG.out.regs pj HYI.out.2.2.1)
      have HPR := Hd hr
      have HRG := Hd (show RegOk r by rw [← hr]; exact HSG.out.regOk (b := b) (i := i) (x := x) HYI.out.2.2.1)
      clear hr
      rcases hk3 with rfl | rfl | rfl
      ·-- CASE load
       as_aux_lemma =>
        go_upto_region 20 with fail
        go_upto_region 21 with (first
         | (refine wpList_load_at rfl 72 (.tmp 120) rfl (aev.add (n' * 6)) (by rfl) (evC (ev, .slice Ag ng cg)) _ KEV.out underlying72 rfl sizA ?_)
         | (refine wpList_store_new rfl 72 (.tmp 25) (.tmp 121) rfl _ (evC (ev, .slice Ag ng cg)) (.agg (evC (ev, .slice Ag ng cg)).toArray) (by rfl) (by rfl) rfl sizA (by rfl) (EvD.one rfl) ?_
            intro wE Gz Lz Zz
            have HB25 := Hd Gz
            have HL25 := Hd Lz
            clear Gz Lz Zz)
         | fail)
        obtain ⟨b25, hb25⟩ : ∃ z, wT.heap.size = z := ⟨_, rfl⟩
        rw [hb25] at HB25 ⊢
        replace HTS := Hd (HTS.out.upto (HL25.out.mono (Nat.le_of_lt HBV.out.lt)))
        replace HTT := Hd (show TrAt wE (fun k => gv ≤ k) (.slice At' nt ct') Tj from HTT.out.chg (H := fun _ => False) (Chg.of_below HL25.out) (fun b z => z.elim) (fun b z => .inl z))
        replace HWW := Hd (HWW.out.trans (HL25.out.mono HWW.out.size))
        replace HX24 := Hd (HX24.out.below HL25.out HX24.out.lt)
        replace HBV := Hd (HBV.out.below HL25.out HBV.out.lt)
        clear hb25 k24 cse g1 g2 KEV HL25
        go_upto_region 22 with fail
        have k24 : wE.cell? ⟨b24, 0, none⟩ = some (.int .i8 1) := by rw [← HKD.out]; exact HX24.out.cell 0
        have k25 : wE.cell? ⟨b25, 2, none⟩ = some (.int .i64 ev.a) := HB25.out.cell 2
        have hke : ev.kind = 0 ∧ ev.size = y.size ∧ evP rr.p.T V ev.a = some (IntKind.u64.wrap (regV r y.src + IntKind.u64.wrap y.off)) := by
         have h := HEV.out
         unfold evV at h
         rw [if_pos HKD.out] at h
         have hk : ev.kind = 0 := h.kind
         refine ⟨hk, h.size, ?_⟩
         have := h.at_ (by omega)
         rw [this]
         exact congrArg some (by rw [← HR.out]; exact place_eq _ _ _)
        have HKE := Hd hke
        clear hke
        have HBR := Hd (show br < 70 by have := HM1.out.2.1; have := mOf_n V r0 ins j; omega)
        have HJN := Hd (show j + 1 < m1 by
         have h5 := HP.out.2.2.2.2.1
         rcases HP.out.2.2.2.2.2.1 with z | z
         ·have := HYI.out.2.1; omega
         ·rcases Nat.lt_or_ge (j + 1) ins.length with z2 | z2
          ·omega
          ·exfalso
           have h7 := HSH.out.last
           rw [show ins.length - 1 = j by have := HYI.out.2.1; omega, HYI.out.1] at h7
           have h8 := Option.some.inj h7
           have h9 := HKD.out
           rw [h8] at h9
           omega)
        have HEW := Hd (HTS.out.endW HBV.out HSG.out.len HSG.out.u64 (by have := HTS.out.blks.len; have := blkL_few HSH.out.pr; omega) (by have := HM5.out; omega) HP.out.2.2.2.2.2.2)
        go_upto_region 40 with fail
        go_wp2_with fail
        refine (HEW.out.eval HTS.out.pool.wf HKE.out.2.2).mono ?_
        rintro e wU ⟨rfl, hb⟩
        replace HTS := Hd (HTS.out.upto (hb.mono (Nat.le_of_lt HBV.out.lt)))
        replace HTT := Hd (show TrAt wU (fun k => gv ≤ k) (.slice At' nt ct') Tj from HTT.out.chg (H := fun _ => False) (Chg.of_below hb) (fun b z => z.elim) (fun b z => .inl z))
        replace HWW := Hd (HWW.out.trans (hb.mono HWW.out.size))
        replace HX24 := Hd (HX24.out.below hb HX24.out.lt)
        replace HBV := Hd (HBV.out.below hb HBV.out.lt)
        replace HB25 := Hd (HB25.out.below hb HB25.out.lt)
        clear hb k24 k25 HEW
        have KE0 := Hd (show wU.cell? ⟨b25, 0, none⟩ = some (.int .i8 ev.kind) from HB25.out.cell 0)
        have KE1 := Hd (show wU.cell? ⟨b25, 1, none⟩ = some (.int .i8 ev.size) from HB25.out.cell 1)
        have KE4 := Hd (show wU.cell? ⟨b25, 4, none⟩ = some (.int .i64 ev.num) from HB25.out.cell 4)
        have KE5 := Hd (show wU.cell? ⟨b25, 5, none⟩ = some (.slice Ag ng cg) from HB25.out.cell 5)
        have KY3 := Hd (show wU.cell? ⟨b24, 3, none⟩ = some (.int .i8 y.size) from HX24.out.cell 3)
        have KY5 := Hd (show wU.cell? ⟨b24, 5, none⟩ = some (.int .i8 y.dst) from HX24.out.cell 5)
        have KY6 := Hd (show wU.cell? ⟨b24, 6, none⟩ = some (.int .i8 y.src) from HX24.out.cell 6)
        have KY7 := Hd (show wU.cell? ⟨b24, 7, none⟩ = some (.int .i64 y.off) from HX24.out.cell 7)
        have HEK := Hd HKE.out.1
        have HES := Hd HKE.out.2.1
        have hsj := sn_cell (HTS.out.sn.more (Nat.le_of_lt HBV.out.lt)) HP.out.2.2.2.2.2.2 HYI.out.2.2.2.1 HJM.out
        obtain ⟨ads2, e2, _, hsc⟩ := hsj
        obtain rfl : ads = ads2 := Option.some.inj e2
        have KR := Hd (show wU.cell? ((ads.add (j * 76)).add y.src.toNat) = some (.int .u64 (regV r y.src)) by
         have h := hsc y.src.toNat (by have := HMF.out.src; omega)
         rw [HYI.out.2.2.2.2, HPR.out] at h
         exact h)
        clear hsc e2
        go_upto_region 41 with fail
        refine wp_region_E (fun w' => Below wU.heap.size wU w') (fun _ => True) [] (by kernel_rfl) ?_
        have HT := Hd ((Below.refl wU.heap.size wU).drew)
        generalize wU.drew = Wd at HT ⊢
        refine em 0 (.int .i64 (br : Int)) (bT HT) ?_
        refine eb 1 (.bool false) rfl (fun o e w _ => by unfold execOp; simp only [e]; go_simp; all_goals (have := HBR.out; first | omega | (simp; omega))) (bT HT) ?_
        refine em 2 (.bool false) (bT HT) ?_
        refine em 3 (.int .i64 (j : Int)) (bT HT) ?_
        refine eb 4 (.int .i64 ((j : Int) + 1)) rfl (fun o e w _ => by unfold execOp; simp only [e]; go_simp; all_goals (have := HJM.out; have := HM5.out; rw [wrap_in (by omega)])) (bT HT) ?_
        refine em 5 (.slice (some ads) m1 c2) (bT HT) ?_
        refine eg 6 (.int .i64 (m1 : Int)) (bT HT) ?_
        refine eb 7 (.bool false) rfl (fun o e w _ => by unfold execOp; simp only [e]; go_simp; all_goals (have := HJN.out; first | omega | (simp; omega))) (bT HT) ?_
        refine ep 8 false (.bool false) (bT HT) ?_
        refine em 9 (.bool false) (bT HT) ?_
        refine ef 10 ⟨b25, 0, none⟩ ⟨b25, 0, none⟩ (bT HT) ?_
        refine el false 11 ⟨b25, 0, none⟩ (.int .i8 ev.kind) underlying30 (fun w hS => (bcell hS.1 KE0.out)) (bT HT) ?_
        refine eb 12 (.bool false) rfl (fun o e w _ => by unfold execOp; simp only [e]; go_simp; all_goals (rw [HEK.out]; try rfl)) (bT HT) ?_
        refine ep 13 false (.bool false) (bT HT) ?_
        refine em 14 (.bool false) (bT HT) ?_
        refine ef 15 ⟨b25, 0, none⟩ ⟨b25, 1, none⟩ (bT HT) ?_
        refine el false 16 ⟨b25, 1, none⟩ (.int .i8 ev.size) underlying30 (fun w hS => (bcell hS.1 KE1.out)) (bT HT) ?_
        refine ef 17 ⟨b24, 0, none⟩ ⟨b24, 3, none⟩ (bT HT) ?_
        refine el false 18 ⟨b24, 3, none⟩ (.int .i8 y.size) underlying30 (fun w hS => (bcell hS.1 KY3.out)) (bT HT) ?_
        refine eb 19 (.bool false) rfl (fun o e w _ => by unfold execOp; simp only [e]; go_simp; all_goals (rw [HES.out]; try simp)) (bT HT) ?_
        refine ep 20 false (.bool false) (bT HT) ?_
        refine em 21 (.bool false) (bT HT) ?_
        refine em 22 (.int .i64 0) (bT HT) ?_
        refine eg 23 (.bool false) (bT HT) ?_
        refine ep 24 false (.bool false) (bT HT) ?_
        refine em 25 (.bool false) (bT HT) ?_
        refine em 26 (.int .u64 (IntKind.u64.wrap (regV r y.src + IntKind.u64.wrap y.off))) (bT HT) ?_
        refine em 27 (.slice (some ads) m1 c2) (bT HT) ?_
        refine em 28 (.int .i64 (j : Int)) (bT HT) ?_
        refine ef 29 ⟨b24, 0, none⟩ ⟨b24, 6, none⟩ (bT HT) ?_
        refine el false 30 ⟨b24, 6, none⟩ (.int .i8 y.src) underlying30 (fun w hS => (bcell hS.1 KY6.out)) (bT HT) ?_
        refine ex 31 (.slice (some ads) m1 c2) (.int .i64 (j : Int)) (.pointer (some (ads.add (j * 76)))) (run_ixsn HJM.out) (bT HT) ?_
        refine E_field 32 (some 312) 86 _ 0 (ads.add (j * 76)) (ads.add (j * 76)) rfl (by kernel_rfl) (by rfl) (fun _ _ _ h => h) (by rfl) (fun w => by go_simp) (bT HT) ?_
        simp only [pt, pn, sL]
        refine ex 33 (.pointer (some (ads.add (j * 76)))) (.int .i8 y.src) (.pointer (some ((ads.add (j * 76)).add y.src.toNat))) (run_ixrg HMF.out.src) (bT HT) ?_
        refine el false 34 ((ads.add (j * 76)).add y.src.toNat) (.int .u64 (regV r y.src)) underlying31 (fun w hS => (bcell hS.1 KR.out)) (bT HT) ?_
        refine ef 35 ⟨b24, 0, none⟩ ⟨b24, 7, none⟩ (bT HT) ?_
        refine el false 36 ⟨b24, 7, none⟩ (.int .i64 y.off) underlying3 (fun w hS => (bcell hS.1 KY7.out)) (bT HT) ?_
        refine eg 37 (.int .u64 (IntKind.u64.wrap y.off)) (bT HT) ?_
        refine eg 38 (.int .u64 (IntKind.u64.wrap (regV r y.src + IntKind.u64.wrap y.off))) (bT HT) ?_
        refine eb 39 (.bool false) rfl (fun o e w _ => by unfold execOp; simp only [e]; go_simp; all_goals (simp)) (bT HT) ?_
        refine ep 40 false (.bool false) (bT HT) ?_
        refine wpAnyE_done (by kernel_rfl) ?_ _
        replace HTS := Hd (HTS.out.upto (HT.out.mono (Nat.le_of_lt HBV.out.lt)))
        replace HTT := Hd (show TrAt Wd (fun k => gv ≤ k) (.slice At' nt ct') Tj from HTT.out.chg (H := fun _ => False) (Chg.of_below HT.out) (fun b z => z.elim) (fun b z => .inl z))
        replace HWW := Hd (HWW.out.trans (HT.out.mono HWW.out.size))
        replace HX24 := Hd (HX24.out.below HT.out HX24.out.lt)
        replace HBV := Hd (HBV.out.below HT.out HBV.out.lt)
        replace HB25 := Hd (HB25.out.below HT.out HB25.out.lt)
        clear HT KE0 KE1 KE4 KE5 KY3 KY5 KY6 KY7 KR
        go_upto_region 43 with fail
        have hqj : j + 1 < q.length := by have := HP.out.2.2.2.1; have := HJN.out; omega
        obtain ⟨p, p', tr, T', hp1, hp2, eT, _, _, _, hst, hro, _, hsl, _⟩ := HSG.out.step HSH.out HYI.out.2.1 HYI.out.1 hqj HMF.out
        have htr : tr = [] := by
         have := HKD.out
         rcases hst with ⟨_, _, _, e⟩ | ⟨_, _, _, e⟩ | ⟨_, _, _, e⟩ | ⟨_, _, _, e⟩ | ⟨_, _, _, e⟩ | ⟨k, _⟩
         ·exact e
         ·exact e
         ·exact e
         ·exact e
         ·exact e
         ·omega
        rw [htr, List.nil_append] at eT
        subst eT
        obtain ⟨vb, hvb⟩ : ∃ z, regV p'.2 y.dst = z := ⟨_, rfl⟩
        have hsg' := hsl HKD.out
        rw [hvb, ← HM1.out.2.1] at hsg'
        have HSG2 := Hd hsg'
        have hen := Sg.evs_next (V := V) (r0 := r0) (V.set (38 + 3 * br) vb) HYI.out.1 (mOf_set V r0 ins j (by rw [HM1.out.2.1]; exact Nat.le_refl _) vb)
        have HEN := Hd (show n' + 1 = (mOf (V.set (38 + 3 * br) vb) r0 ins (j + 1)).evs.length ∧ br + 1 = (mOf (V.set (38 + 3 * br) vb) r0 ins (j + 1)).n from ⟨by rw [hen.1, HEVB.out, HM1.out.1]; rfl, by rw [hen.2, if_pos (.inl HKD.out), HM1.out.2.1]⟩)
        obtain ⟨j1, hj1⟩ : ∃ z, j + 1 = z := ⟨_, rfl⟩
        have HJ1 := Hd hj1
        have KG := Hd HBV.out
        have HVL := Hd HSG.out.len
        obtain ⟨p3, hq3, _, s3, hs3, hs4⟩ := HP.out.2.2.1 j1 (by have := HJN.out; omega)
        rw [← hj1, hp2] at hq3
        obtain rfl := Option.some.inj hq3
        replace HJN := Hd (show j1 < m1 by have := HJN.out; omega)
        obtain ⟨ads2, e2, _, hsc⟩ := sn_cell (HTS.out.sn.more (Nat.le_of_lt HBV.out.lt)) HP.out.2.2.2.2.2.2 hs3 HJN.out
        obtain rfl : ads = ads2 := Option.some.inj e2
        have KR := Hd (show Wd.cell? ((ads.add (j1 * 76)).add y.dst.toNat) = some (.int .u64 vb) by
         have h := hsc y.dst.toNat (by have := HMF.out.dst; omega)
         rw [hs4] at h
         rw [← hvb]
         exact h)
        have KY5 := Hd (show Wd.cell? ⟨b24, 5, none⟩ = some (.int .i8 y.dst) from HX24.out.cell 5)
        clear hsc e2 hen hsg' hsl hst hro hvb hs3 hs4 hp1 hp2 hqj hq3 hj1 htr
        refine wp_region_E (fun _ => True) (fun w' => Below Wd.heap.size Wd w') [14] (by kernel_rfl) ?_
        have HT := Hd ((Below.refl Wd.heap.size Wd).drew)
        generalize Wd.drew = We at HT ⊢
        refine em 0 (.slice (some ⟨gv, 0, none⟩) 260 260) (.both trivial HT.out) ?_
        refine em 1 (.int .i64 (br : Int)) (.both trivial HT.out) ?_
        refine eb 2 (.int .i64 (3 * (br : Int))) rfl (fun o e w _ => by unfold execOp; simp only [e]; go_simp; all_goals (have := HBR.out; rw [wrap_in (by omega)])) (.both trivial HT.out) ?_
        refine eb 3 (.int .i64 (((38 + 3 * br : Nat)) : Int)) rfl (fun o e w _ => by unfold execOp; simp only [e]; go_simp; all_goals (have := HBR.out; rw [wrap_in (by omega)]; try (congr 1; omega))) (.both trivial HT.out) ?_
        refine em 4 (.slice (some ads) m1 c2) (.both trivial HT.out) ?_
        refine em 5 (.int .i64 (j : Int)) (.both trivial HT.out) ?_
        refine eb 6 (.int .i64 (j1 : Int)) rfl (fun o e w _ => by unfold execOp; simp only [e]; go_simp; all_goals (have := HJ1.out; have := HJN.out; have := HM5.out; rw [wrap_in (by omega)]; try (congr 1; omega))) (.both trivial HT.out) ?_
        refine ef 7 ⟨b24, 0, none⟩ ⟨b24, 5, none⟩ (.both trivial HT.out) ?_
        refine el true 8 ⟨b24, 5, none⟩ (.int .i8 y.dst) underlying30 (fun w hS => (bcell (hS.2 rfl) KY5.out)) (.both trivial HT.out) ?_
        refine ex 9 (.slice (some ads) m1 c2) (.int .i64 (j1 : Int)) (.pointer (some (ads.add (j1 * 76)))) (run_ixsn HJN.out) (.both trivial HT.out) ?_
        refine E_field 10 (some 331) 86 _ 0 (ads.add (j1 * 76)) (ads.add (j1 * 76)) rfl (by kernel_rfl) (by rfl) (fun _ _ _ h => h) (by rfl) (fun w => by go_simp) (.both trivial HT.out) ?_
        simp only [pt, pn, sL]
        refine ex 11 (.pointer (some (ads.add (j1 * 76)))) (.int .i8 y.dst) (.pointer (some ((ads.add (j1 * 76)).add y.dst.toNat))) (run_ixrg HMF.out.dst) (.both trivial HT.out) ?_
        refine el true 12 ((ads.add (j1 * 76)).add y.dst.toNat) (.int .u64 vb) underlying31 (fun w hS => (bcell (hS.2 rfl) KR.out)) (.both trivial HT.out) ?_
        refine ex 13 (.slice (some ⟨gv, 0, none⟩) 260 260) (.int .i64 (((38 + 3 * br : Nat)) : Int)) (.pointer (some ⟨gv, 38 + 3 * br, none⟩)) (run_ixv HBR.out) (.both trivial HT.out) ?_
        refine E_one 14 (by kernel_rfl) (StepE.store_cell 14 31 31 _ _ gv (38 + 3 * br) _ (.int .u64 vb) rfl (by rfl) (KG.out.below HT.out KG.out.lt) (by rfl) (by rfl) (run_storeVar_one 31 gv (38 + 3 * br) 31 _ _ (KG.out.below HT.out KG.out.lt) (by rw [List.size_toArray, u64C_len, HVL.out]; have := HBR.out; omega) sizU rfl rfl) ?_)
        intro wV hBv hgv
        have HBW := Hd hBv
        have HGW := Hd hgv
        clear hBv hgv
        refine ⟨.after trivial (by kernel_rfl), ?_⟩
        simp only [pt, pn, sL]
        refine wpAnyE_done (by kernel_rfl) ?_ _
        have hgle : gv ≤ We.heap.size := Nat.le_trans (Nat.le_of_lt KG.out.lt) HT.out.size
        have hgx : Below gv Wd wV := (HT.out.mono (Nat.le_of_lt KG.out.lt)).trans ((Below.refl gv We).grown HGW.out hgle (fun k e => Nat.le_of_eq (Option.some.inj e)))
        replace HTS := Hd (HTS.out.upto hgx)
        replace HTT := Hd (show TrAt wV (fun k => gv ≤ k) (.slice At' nt ct') Tj from HTT.out.chg (H := fun k => gv ≤ k) (chg_of_low hgx) (fun b z => .inl z) (fun b z => .inl z))
        replace HWW := Hd (HWW.out.trans (hgx.mono HGV.out))
        replace HBV := Hd (show Blk wV gv 31 (u64C (V.set (38 + 3 * br) vb)).toArray by rw [← u64C_set]; exact HBW.out)
        clear hgx hgle HBW HGW HT KG HX24 HB25 KY5 KR
        have hbr70 : br < 70 := HBR.out
        go_wp2_with fail
        go_roundw
        case measure => simp [intOf]; omega
        case rel => exact ⟨j + 1, n' + 1, br + 1, nt, V.set (38 + 3 * br) vb, Tj, At', ct', rfl, by go_num, by go_num, by go_num, by omega, Hd ⟨HEN.out.1, HEN.out.2, HM1.out.2.2, HSG2.out, HTT.out, HTS.out, HBV.out, HWW.out⟩⟩
      ·-- CASE store
       as_aux_lemma =>
        go_upto_region 20 with fail
        go_upto_region 21 with (first
         | (refine wpList_load_at rfl 72 (.tmp 120) rfl (aev.add (n' * 6)) (by rfl) (evC (ev, .slice Ag ng cg)) _ KEV.out underlying72 rfl sizA ?_)
         | (refine wpList_store_new rfl 72 (.tmp 25) (.tmp 121) rfl _ (evC (ev, .slice Ag ng cg)) (.agg (evC (ev, .slice Ag ng cg)).toArray) (by rfl) (by rfl) rfl sizA (by rfl) (EvD.one rfl) ?_
            intro wE Gz Lz Zz
            have HB25 := Hd Gz
            have HL25 := Hd Lz
            clear Gz Lz Zz)
         | fail)
        obtain ⟨b25, hb25⟩ : ∃ z, wT.heap.size = z := ⟨_, rfl⟩
        rw [hb25] at HB25 ⊢
        replace HTS := Hd (HTS.out.upto (HL25.out.mono (Nat.le_of_lt HBV.out.lt)))
        replace HTT := Hd (show TrAt wE (fun k => gv ≤ k) (.slice At' nt ct') Tj from HTT.out.chg (H := fun _ => False) (Chg.of_below HL25.out) (fun b z => z.elim) (fun b z => .inl z))
        replace HWW := Hd (HWW.out.trans (HL25.out.mono HWW.out.size))
        replace HX24 := Hd (HX24.out.below HL25.out HX24.out.lt)
        replace HBV := Hd (HBV.out.below HL25.out HBV.out.lt)
        clear hb25 k24 cse g1 g2 KEV HL25
        go_upto_region 22 with fail
        have k24 : wE.cell? ⟨b24, 0, none⟩ = some (.int .i8 2) := by rw [← HKD.out]; exact HX24.out.cell 0
        have k25 : wE.cell? ⟨b25, 2, none⟩ = some (.int .i64 ev.a) := HB25.out.cell 2
        have hke : ev.kind = 1 ∧ ev.size = y.size ∧ evP rr.p.T V ev.a = some (IntKind.u64.wrap (regV r y.dst + IntKind.u64.wrap y.off)) ∧ evP rr.p.T V ev.v = some (cutV (8 * y.size) (regV r y.src)) := by
         have h := HEV.out
         unfold evV at h
         rw [if_neg (by have := HKD.out; omega), if_pos HKD.out] at h
         have hk : ev.kind = 1 := h.kind
         refine ⟨hk, h.size, ?_, ?_⟩
         ·rw [h.at_ (by omega)]
          exact congrArg some (by rw [← HR.out]; exact place_eq _ _ _)
         ·rw [h.val, ← HR.out]
          rfl
        have HKE := Hd hke
        clear hke
        have HSZ2 := Hd (show 0 ≤ 8 * y.size ∧ 8 * y.size ≤ 64 by have := HMF.out.size (.inr HKD.out); omega)
        have HEW := Hd (HTS.out.endW HBV.out HSG.out.len HSG.out.u64 (by have := HTS.out.blks.len; have := blkL_few HSH.out.pr; omega) (by have := HM5.out; omega) HP.out.2.2.2.2.2.2)
        go_upto_region 23 with fail
        go_wp2_with fail
        refine (HEW.out.eval HTS.out.pool.wf HKE.out.2.2.1).mono ?_
        rintro e wU0 ⟨rfl, hb⟩
        replace HTS := Hd (HTS.out.upto (hb.mono (Nat.le_of_lt HBV.out.lt)))
        replace HTT := Hd (show TrAt wU0 (fun k => gv ≤ k) (.slice At' nt ct') Tj from HTT.out.chg (H := fun _ => False) (Chg.of_below hb) (fun b z => z.elim) (fun b z => .inl z))
        replace HWW := Hd (HWW.out.trans (hb.mono HWW.out.size))
        replace HX24 := Hd (HX24.out.below hb HX24.out.lt)
        replace HBV := Hd (HBV.out.below hb HBV.out.lt)
        replace HB25 := Hd (HB25.out.below hb HB25.out.lt)
        replace HEW := Hd (HEW.out.below hb)
        clear hb k24 k25
        have k25 : wU0.cell? ⟨b25, 3, none⟩ = some (.int .i64 ev.v) := HB25.out.cell 3
        go_upto_region 24 with fail
        go_wp2_with fail
        refine (HEW.out.eval HTS.out.pool.wf HKE.out.2.2.2).mono ?_
        rintro e wU ⟨rfl, hb⟩
        replace HTS := Hd (HTS.out.upto (hb.mono (Nat.le_of_lt HBV.out.lt)))
        replace HTT := Hd (show TrAt wU (fun k => gv ≤ k) (.slice At' nt ct') Tj from HTT.out.chg (H := fun _ => False) (Chg.of_below hb) (fun b z => z.elim) (fun b z => .inl z))
        replace HWW := Hd (HWW.out.trans (hb.mono HWW.out.size))
        replace HX24 := Hd (HX24.out.below hb HX24.out.lt)
        replace HBV := Hd (HBV.out.below hb HBV.out.lt)
        replace HB25 := Hd (HB25.out.below hb HB25.out.lt)
        clear hb k25 HEW
        have KE0 := Hd (show wU.cell? ⟨b25, 0, none⟩ = some (.int .i8 ev.kind) from HB25.out.cell 0)
        have KE1 := Hd (show wU.cell? ⟨b25, 1, none⟩ = some (.int .i8 ev.size) from HB25.out.cell 1)
        have KE4 := Hd (show wU.cell? ⟨b25, 4, none⟩ = some (.int .i64 ev.num) from HB25.out.cell 4)
        have KE5 := Hd (show wU.cell? ⟨b25, 5, none⟩ = some (.slice Ag ng cg) from HB25.out.cell 5)
        have KY3 := Hd (show wU.cell? ⟨b24, 3, none⟩ = some (.int .i8 y.size) from HX24.out.cell 3)
        have KY5 := Hd (show wU.cell? ⟨b24, 5, none⟩ = some (.int .i8 y.dst) from HX24.out.cell 5)
        have KY6 := Hd (show wU.cell? ⟨b24, 6, none⟩ = some (.int .i8 y.src) from HX24.out.cell 6)
        have KY7 := Hd (show wU.cell? ⟨b24, 7, none⟩ = some (.int .i64 y.off) from HX24.out.cell 7)
        have HEK := Hd HKE.out.1
        have HES := Hd HKE.out.2.1
        have HRU := Hd (reg_u64 HRG.out y.src)
        obtain ⟨ads2, e2, _, hsc⟩ := sn_cell (HTS.out.sn.more (Nat.le_of_lt HBV.out.lt)) HP.out.2.2.2.2.2.2 HYI.out.2.2.2.1 HJM.out
        obtain rfl : ads = ads2 := Option.some.inj e2
        have KR := Hd (show wU.cell? ((ads.add (j * 76)).add y.src.toNat) = some (.int .u64 (regV r y.src)) by
         have h := hsc y.src.toNat (by have := HMF.out.src; omega)
         rw [HYI.out.2.2.2.2, HPR.out] at h
         exact h)
        have KD := Hd (show wU.cell? ((ads.add (j * 76)).add y.dst.toNat) = some (.int .u64 (regV r y.dst)) by
         have h := hsc y.dst.toNat (by have := HMF.out.dst; omega)
         rw [HYI.out.2.2.2.2, HPR.out] at h
         exact h)
        clear hsc e2
        go_upto_region 25 with fail
        refine wp_region_E (fun w' => Below wU.heap.size wU w') (fun _ => True) [] (by kernel_rfl) ?_
        have HT := Hd ((Below.refl wU.heap.size wU).drew)
        generalize wU.drew = Wd at HT ⊢
        refine ef 0 ⟨b25, 0, none⟩ ⟨b25, 0, none⟩ (bT HT) ?_
        refine el false 1 ⟨b25, 0, none⟩ (.int .i8 ev.kind) underlying30 (fun w hS => (bcell hS.1 KE0.out)) (bT HT) ?_
        refine eb 2 (.bool false) rfl (fun o e w _ => by unfold execOp; simp only [e]; go_simp; all_goals (rw [HEK.out]; try rfl)) (bT HT) ?_
        refine em 3 (.bool false) (bT HT) ?_
        refine ef 4 ⟨b25, 0, none⟩ ⟨b25, 1, none⟩ (bT HT) ?_
        refine el false 5 ⟨b25, 1, none⟩ (.int .i8 ev.size) underlying30 (fun w hS => (bcell hS.1 KE1.out)) (bT HT) ?_
        refine ef 6 ⟨b24, 0, none⟩ ⟨b24, 3, none⟩ (bT HT) ?_
        refine el false 7 ⟨b24, 3, none⟩ (.int .i8 y.size) underlying30 (fun w hS => (bcell hS.1 KY3.out)) (bT HT) ?_
        refine eb 8 (.bool false) rfl (fun o e w _ => by unfold execOp; simp only [e]; go_simp; all_goals (rw [HES.out]; try simp)) (bT HT) ?_
        refine ep 9 false (.bool false) (bT HT) ?_
        refine em 10 (.bool false) (bT HT) ?_
        refine em 11 (.int .i64 0) (bT HT) ?_
        refine eg 12 (.bool false) (bT HT) ?_
        refine ep 13 false (.bool false) (bT HT) ?_
        refine em 14 (.bool false) (bT HT) ?_
        refine em 15 (.int .i64 0) (bT HT) ?_
        refine eg 16 (.bool false) (bT HT) ?_
        refine ep 17 false (.bool false) (bT HT) ?_
        refine em 18 (.bool false) (bT HT) ?_
        refine em 19 (.int .u64 (IntKind.u64.wrap (regV r y.dst + IntKind.u64.wrap y.off))) (bT HT) ?_
        refine em 20 (.slice (some ads) m1 c2) (bT HT) ?_
        refine em 21 (.int .i64 (j : Int)) (bT HT) ?_
        refine ef 22 ⟨b24, 0, none⟩ ⟨b24, 5, none⟩ (bT HT) ?_
        refine el false 23 ⟨b24, 5, none⟩ (.int .i8 y.dst) underlying30 (fun w hS => (bcell hS.1 KY5.out)) (bT HT) ?_
        refine ex 24 (.slice (some ads) m1 c2) (.int .i64 (j : Int)) (.pointer (some (ads.add (j * 76)))) (run_ixsn HJM.out) (bT HT) ?_
        refine E_field 25 (some 167) 86 _ 0 (ads.add (j * 76)) (ads.add (j * 76)) rfl (by kernel_rfl) (by rfl) (fun _ _ _ h => h) (by rfl) (fun w => by go_simp) (bT HT) ?_
        simp only [pt, pn, sL]
        refine ex 26 (.pointer (some (ads.add (j * 76)))) (.int .i8 y.dst) (.pointer (some ((ads.add (j * 76)).add y.dst.toNat))) (run_ixrg HMF.out.dst) (bT HT) ?_
        refine el false 27 ((ads.add (j * 76)).add y.dst.toNat) (.int .u64 (regV r y.dst)) underlying31 (fun w hS => (bcell hS.1 KD.out)) (bT HT) ?_
        refine ef 28 ⟨b24, 0, none⟩ ⟨b24, 7, none⟩ (bT HT) ?_
        refine el false 29 ⟨b24, 7, none⟩ (.int .i64 y.off) underlying3 (fun w hS => (bcell hS.1 KY7.out)) (bT HT) ?_
        refine eg 30 (.int .u64 (IntKind.u64.wrap y.off)) (bT HT) ?_
        refine eg 31 (.int .u64 (IntKind.u64.wrap (regV r y.dst + IntKind.u64.wrap y.off))) (bT HT) ?_
        refine eb 32 (.bool false) rfl (fun o e w _ => by unfold execOp; simp only [e]; go_simp; all_goals (simp)) (bT HT) ?_
        refine ep 33 false (.bool false) (bT HT) ?_
        refine em 34 (.bool false) (bT HT) ?_
        refine em 35 (.int .u64 (cutV (8 * y.size) (regV r y.src))) (bT HT) ?_
        refine em 36 (.slice (some ads) m1 c2) (bT HT) ?_
        refine em 37 (.int .i64 (j : Int)) (bT HT) ?_
        refine ef 38 ⟨b24, 0, none⟩ ⟨b24, 6, none⟩ (bT HT) ?_
        refine el false 39 ⟨b24, 6, none⟩ (.int .i8 y.src) underlying30 (fun w hS => (bcell hS.1 KY6.out)) (bT HT) ?_
        refine ex 40 (.slice (some ads) m1 c2) (.int .i64 (j : Int)) (.pointer (some (ads.add (j * 76)))) (run_ixsn HJM.out) (bT HT) ?_
        refine E_field 41 (some 183) 86 _ 0 (ads.add (j * 76)) (ads.add (j * 76)) rfl (by kernel_rfl) (by rfl) (fun _ _ _ h => h) (by rfl) (fun w => by go_simp) (bT HT) ?_
        simp only [pt, pn, sL]
        refine ex 42 (.pointer (some (ads.add (j * 76)))) (.int .i8 y.src) (.pointer (some ((ads.add (j * 76)).add y.src.toNat))) (run_ixrg HMF.out.src) (bT HT) ?_
        refine el false 43 ((ads.add (j * 76)).add y.src.toNat) (.int .u64 (regV r y.src)) underlying31 (fun w hS => (bcell hS.1 KR.out)) (bT HT) ?_
        refine ef 44 ⟨b24, 0, none⟩ ⟨b24, 3, none⟩ (bT HT) ?_
        refine el false 45 ⟨b24, 3, none⟩ (.int .i8 y.size) underlying30 (fun w hS => (bcell hS.1 KY3.out)) (bT HT) ?_
        refine eb 46 (.int .i8 (8 * y.size)) rfl (fun o e w _ => by unfold execOp; simp only [e]; go_simp; all_goals (have := HSZ2.out; rw [i8_small (by omega)])) (bT HT) ?_
        refine eo 47 fun o K h2 h3 hKK => ?_
        unfold Oper.wp execOp
        simp only [h3]
        go_simp
        refine (rcut_any (regV r y.src) (8 * y.size) HRU.out _).mono ?_
        rintro e wq ⟨rfl, rfl⟩
        dsimp only
        refine hKK _ _ (bT HT) ?_
        clear hKK h2 h3 K o
        try simp only [pt, pn, sL]
        refine eb 48 (.bool false) rfl (fun o e w _ => by unfold execOp; simp only [e]; go_simp; all_goals (simp)) (bT HT) ?_
        refine ep 49 false (.bool false) (bT HT) ?_
        refine wpAnyE_done (by kernel_rfl) ?_ _
        replace HTS := Hd (HTS.out.upto (HT.out.mono (Nat.le_of_lt HBV.out.lt)))
        replace HTT := Hd (show TrAt Wd (fun k => gv ≤ k) (.slice At' nt ct') Tj from HTT.out.chg (H := fun _ => False) (Chg.of_below HT.out) (fun b z => z.elim) (fun b z => .inl z))
        replace HWW := Hd (HWW.out.trans (HT.out.mono HWW.out.size))
        replace HX24 := Hd (HX24.out.below HT.out HX24.out.lt)
        replace HBV := Hd (HBV.out.below HT.out HBV.out.lt)
        replace HB25 := Hd (HB25.out.below HT.out HB25.out.lt)
        clear HT KE0 KE1 KE4 KE5 KY3 KY5 KY6 KY7 KR KD
        have hnx : ∃ Tj', nt = Tj'.length ∧ TrAt Wd (fun k => gv ≤ k) (.slice At' nt ct') Tj' ∧ Sg l ins f r0 q (j + 1) V Tj' := by
         have hk15 : ¬ (y.kind = 1 ∨ y.kind = 5) := by have := HKD.out; omega
         rcases Nat.lt_or_ge (j + 1) q.length with hq | hq
         ·obtain ⟨p, p', tr, T', _, _, eT, _, _, _, hst, _, h1, _, _⟩ := HSG.out.step HSH.out HYI.out.2.1 HYI.out.1 hq HMF.out
          have htr : tr = [] := by
           rcases hst with ⟨_, _, _, e⟩ | ⟨_, _, _, e⟩ | ⟨_, _, _, e⟩ | ⟨_, _, _, e⟩ | ⟨_, _, _, e⟩ | ⟨k, _⟩
           ·exact e
           ·exact e
           ·exact e
           ·exact e
           ·exact e
           ·omega
          rw [htr, List.nil_append] at eT
          exact ⟨T', by rw [← eT]; exact HM1.out.2.2, by rw [← eT]; exact HTT.out, h1 hk15⟩
         ·have hjq : j + 1 = ins.length := by have := HYI.out.2.1; have := HSH.out.long; omega
          exact ⟨Tj, HM1.out.2.2, HTT.out, (HSG.out.last HSH.out hjq hq).2.2⟩
        obtain ⟨Tj', hn1, hn2, hn3⟩ := hnx
        have hen := Sg.evs_next (V := V) (r0 := r0) V HYI.out.1 rfl
        have HNX := Hd (And.intro hn1 (And.intro hn2 hn3))
        have HEN := Hd (show n' + 1 = (mOf V r0 ins (j + 1)).evs.length ∧ br = (mOf V r0 ins (j + 1)).n from ⟨by rw [hen.1, HEVB.out, HM1.out.1]; rfl, by rw [hen.2, if_neg (by have := HKD.out; omega), HM1.out.2.1]; rfl⟩)
        clear hn1 hn2 hn3 hen HX24 HB25
        go_wp2_with fail
        go_roundw
        case measure => simp [intOf]; omega
        case rel => exact ⟨j + 1, n' + 1, br, nt, V, Tj', At', ct', rfl, by go_num, rfl, by go_num, by omega, Hd ⟨HEN.out.1, HEN.out.2, HNX.out.1, HNX.out.2.2, HNX.out.2.1, HTS.out, HBV.out, HWW.out⟩⟩
      ·-- CASE call
       as_aux_lemma =>
        go_upto_region 20 with fail
        go_upto_region 21 with (first
         | (refine wpList_load_at rfl 72 (.tmp 120) rfl (aev.add (n' * 6)) (by rfl) (evC (ev, .slice Ag ng cg)) _ KEV.out underlying72 rfl sizA ?_)
         | (refine wpList_store_new rfl 72 (.tmp 25) (.tmp 121) rfl _ (evC (ev, .slice Ag ng cg)) (.agg (evC (ev, .slice Ag ng cg)).toArray) (by rfl) (by rfl) rfl sizA (by rfl) (EvD.one rfl) ?_
            intro wU Gz Lz Zz
            have HB25 := Hd Gz
            have HL25 := Hd Lz
            clear Gz Lz Zz)
         | fail)
        obtain ⟨b25, hb25⟩ : ∃ z, wT.heap.size = z := ⟨_, rfl⟩
        rw [hb25] at HB25 ⊢
        replace HTS := Hd (HTS.out.upto (HL25.out.mono (Nat.le_of_lt HBV.out.lt)))
        replace HTT := Hd (show TrAt wU (fun k => gv ≤ k) (.slice At' nt ct') Tj from HTT.out.chg (H := fun _ => False) (Chg.of_below HL25.out) (fun b z => z.elim) (fun b z => .inl z))
        replace HWW := Hd (HWW.out.trans (HL25.out.mono HWW.out.size))
        replace HX24 := Hd (HX24.out.below HL25.out HX24.out.lt)
        replace HBV := Hd (HBV.out.below HL25.out HBV.out.lt)
        have HL25K := Hd HL25.out
        clear hb25 k24 cse g1 g2 KEV HL25
        go_upto_region 22 with fail
        have k24 : wU.cell? ⟨b24, 0, none⟩ = some (.int .i8 5) := by rw [← HKD.out]; exact HX24.out.cell 0
        obtain ⟨la, hla⟩ : ∃ z, (r.drop 1).take (argsN y.imm).toNat = z := ⟨_, rfl⟩
        have hke : ev.kind = 2 ∧ ev.num = y.imm ∧ ev.args.length = la.length ∧ ∀ k, k < ng → evP rr.p.T V (ev.args.getD k 0) = some (la.getD k 0) := by
         have h := HEV.out
         unfold evV at h
         rw [if_neg (by have := HKD.out; omega), if_neg (by have := HKD.out; omega), HR.out, hla] at h
         exact ⟨h.kind, h.num, h.len, fun k hk => h.arg k (by rw [HNG.out.1]; exact hk)⟩
        have HKE := Hd hke
        clear hke
        have hqj : j + 1 < q.length := by
         rcases Nat.lt_or_ge (j + 1) q.length with z | z
         ·exact z
         ·exfalso
          have hjq : j + 1 = ins.length := by have := HYI.out.2.1; have := HSH.out.long; omega
          have h6 := (HSG.out.last HSH.out hjq z).1
          have h7 := HSH.out.last
          rw [show ins.length - 1 = j by omega, HYI.out.1] at h7
          have h8 := Option.some.inj h7
          have h9 := HKD.out
          rw [h8] at h9
          omega
        obtain ⟨p, p', tr, T', hp1, hp2, eT, _, _, _, hst, hro, _, _, hsl⟩ := HSG.out.step HSH.out HYI.out.2.1 HYI.out.1 hqj HMF.out
        have hpr : p.2 = r := by
         rw [HYI.out.2.2.1] at hp1
         rw [← Option.some.inj hp1]
         exact HPR.out
        obtain ⟨vb, hvb, htr⟩ : ∃ a, regV p'.2 0 = a ∧ tr = [⟨y.imm, la, a⟩] := by
         have h9 := HKD.out
         rcases hst with ⟨k, _⟩ | ⟨k, _⟩ | ⟨k, _⟩ | ⟨k, _⟩ | ⟨k, _⟩ | ⟨k, _, a, _, e, e2⟩
         ·omega
         ·omega
         ·omega
         ·omega
         ·omega
         ·refine ⟨a, ?_, by rw [e2, hpr, hla]⟩
          rw [e]
          show (fiveL _ 0).getD 0 0 = a
          rw [five_zero, getD_set p.2 0 0 a (by rw [hpr, HRG.out.1]; omega), if_pos rfl]
        rw [htr] at eT
        have eT : Tj = ⟨y.imm, la, vb⟩ :: T' := eT
        have hsg' := hsl HKD.out
        rw [hvb, ← HM1.out.2.1] at hsg'
        have HSG2 := Hd hsg'
        have hen := Sg.evs_next (V := V) (r0 := r0) (V.set (38 + 3 * br) vb) HYI.out.1 (mOf_set V r0 ins j (by rw [HM1.out.2.1]; exact Nat.le_refl _) vb)
        have HENX := Hd (show n' + 1 = (mOf (V.set (38 + 3 * br) vb) r0 ins (j + 1)).evs.length ∧ br + 1 = (mOf (V.set (38 + 3 * br) vb) r0 ins (j + 1)).n from ⟨by rw [hen.1, HEVB.out, HM1.out.1]; rfl, by rw [hen.2, if_pos (.inr HKD.out), HM1.out.2.1]⟩)
        have hnt := HM1.out.2.2
        rw [eT, List.length_cons] at hnt
        have HNT2 := Hd hnt
        have HNT := Hd (show 0 < nt by omega)
        have httr := HTT.out
        rw [eT] at httr
        obtain ⟨adt, x0, v0, hAt, hab0, hx0, hw0, hc0⟩ := httr.at_ (k := 0) HNT.out
        subst hAt
        obtain rfl : x0 = ⟨y.imm, la, vb⟩ := by simpa using hx0.symm
        obtain ⟨Ax, cx, rfl, hcx, hrx, _⟩ := hw0
        obtain ⟨nx, hnx⟩ : ∃ z, la.length = z := ⟨_, rfl⟩
        have hc0' : ∀ j u, (trC ((⟨y.imm, la, vb⟩ : TrE), Value.slice Ax la.length cx))[j]? = some u → wU.cell? (adt.add j) = some u := fun j u hu => by
         have h := hc0 j u hu
         rwa [add_of_add, Nat.zero_mul, Nat.zero_add] at h
        dsimp only at hcx hrx
        rw [hnx] at hc0' hrx
        have a0 : adt.add 0 = adt := by cases adt; simp [Addr.add]
        have KT0 := Hd (show wU.cell? adt = some (.int .i64 y.imm) by have h := hc0' 0 _ rfl; rwa [a0] at h)
        have KT1 := Hd (show wU.cell? ⟨adt.block, adt.off + 1, none⟩ = some (.slice Ax nx cx) from by
         have h := hc0' 1 _ rfl
         rwa [add_one_eq] at h)
        have KT2 := Hd (show wU.cell? (adt.add 2) = some (.int .u64 vb) from hc0' 2 _ rfl)
        have HXR := Hd (show ReadsF wU (fun k => gv ≤ k) 1 Ax nx (la.map (Value.int .u64)) from hrx)
        have HTC := Hd (TrAt.cut httr)
        have HLA := Hd hnx
        clear hx0 hc0 hc0' hcx hrx hnx httr hsg' hsl hst hro hp1 hp2 hpr hvb htr eT hen hqj hnt hla
        replace HVA := Hd (show NumsF wU (fun k => gv ≤ k) (.slice Ag ng cg) ev.args from HVA.out.chg (H := fun _ => False) (Chg.of_below HL25K.out) (fun b z => z.elim) (fun b z => .inl z))
        have HBR := Hd (show br < 70 by have := HM1.out.2.1; have := mOf_n V r0 ins j; omega)
        have KE0 := Hd (show wU.cell? ⟨b25, 0, none⟩ = some (.int .i8 ev.kind) from HB25.out.cell 0)
        have KE4 := Hd (show wU.cell? ⟨b25, 4, none⟩ = some (.int .i64 ev.num) from HB25.out.cell 4)
        have KE5 := Hd (show wU.cell? ⟨b25, 5, none⟩ = some (.slice Ag ng cg) from HB25.out.cell 5)
        have HEK := Hd HKE.out.1
        have HEN := Hd HKE.out.2.1
        have HEA := Hd (show ng = nx by have h1 := HKE.out.2.2.1; have h2 := HNG.out.1; have h3 := HLA.out; omega)
        go_upto_region 28 with fail
        refine wp_region_E (fun w' => Below wU.heap.size wU w') (fun _ => True) [] (by kernel_rfl) ?_
        have HT := Hd ((Below.refl wU.heap.size wU).drew)
        generalize wU.drew = Wd at HT ⊢
        refine em 0 (.int .i64 (br : Int)) (bT HT) ?_
        refine eb 1 (.bool false) rfl (fun o e w _ => by unfold execOp; simp only [e]; go_simp; all_goals (have := HBR.out; first | omega | (simp; omega))) (bT HT) ?_
        refine em 2 (.bool false) (bT HT) ?_
        refine em 3 (.slice (some adt) nt ct') (bT HT) ?_
        refine eg 4 (.int .i64 (nt : Int)) (bT HT) ?_
        refine eb 5 (.bool false) rfl (fun o e w _ => by unfold execOp; simp only [e]; go_simp; all_goals (have := HNT.out; first | omega | (simp; omega))) (bT HT) ?_
        refine ep 6 false (.bool false) (bT HT) ?_
        refine em 7 (.bool false) (bT HT) ?_
        refine ef 8 ⟨b25, 0, none⟩ ⟨b25, 0, none⟩ (bT HT) ?_
        refine el false 9 ⟨b25, 0, none⟩ (.int .i8 ev.kind) underlying30 (fun w hS => (bcell hS.1 KE0.out)) (bT HT) ?_
        refine eb 10 (.bool false) rfl (fun o e w _ => by unfold execOp; simp only [e]; go_simp; all_goals (rw [HEK.out]; try rfl)) (bT HT) ?_
        refine ep 11 false (.bool false) (bT HT) ?_
        refine em 12 (.bool false) (bT HT) ?_
        refine ef 13 ⟨b25, 0, none⟩ ⟨b25, 4, none⟩ (bT HT) ?_
        refine el false 14 ⟨b25, 4, none⟩ (.int .i64 ev.num) underlying3 (fun w hS => (bcell hS.1 KE4.out)) (bT HT) ?_
        refine em 15 (.slice (some adt) nt ct') (bT HT) ?_
        refine ex 16 (.slice (some adt) nt ct') (.int .i64 0) (.pointer (some adt)) (run_ixev HNT.out) (bT HT) ?_
        refine E_field 17 (some 211) 95 _ 0 adt adt rfl (by kernel_rfl) (by rfl) (fun _ _ _ h => h) (by rfl) (fun w => by go_simp) (bT HT) ?_
        simp only [pt, pn, sL]
        refine el false 18 adt (.int .i64 y.imm) underlying3 (fun w hS => (bcell hS.1 KT0.out)) (bT HT) ?_
        refine eb 19 (.bool false) rfl (fun o e w _ => by unfold execOp; simp only [e]; go_simp; all_goals (rw [HEN.out]; try simp)) (bT HT) ?_
        refine ep 20 false (.bool false) (bT HT) ?_
        refine em 21 (.bool false) (bT HT) ?_
        refine ef 22 ⟨b25, 0, none⟩ ⟨b25, 5, none⟩ (bT HT) ?_
        refine el false 23 ⟨b25, 5, none⟩ (.slice Ag ng cg) underlying28 (fun w hS => (bcell hS.1 KE5.out)) (bT HT) ?_
        refine eg 24 (.int .i64 (ng : Int)) (bT HT) ?_
        refine em 25 (.slice (some adt) nt ct') (bT HT) ?_
        refine ex 26 (.slice (some adt) nt ct') (.int .i64 0) (.pointer (some adt)) (run_ixev HNT.out) (bT HT) ?_
        refine E_field 27 (some 221) 95 _ 1 adt ⟨adt.block, adt.off + 1, none⟩ rfl (by kernel_rfl) (by rfl) (fun _ _ _ h => h) (by rfl) (fun w => by go_simp) (bT HT) ?_
        simp only [pt, pn, sL]
        refine el false 28 ⟨adt.block, adt.off + 1, none⟩ (.slice Ax nx cx) underlying26 (fun w hS => (bcell hS.1 KT1.out)) (bT HT) ?_
        refine eg 29 (.int .i64 (nx : Int)) (bT HT) ?_
        refine eb 30 (.bool false) rfl (fun o e w _ => by unfold execOp; simp only [e]; go_simp; all_goals (rw [HEA.out]; try simp)) (bT HT) ?_
        refine ep 31 false (.bool false) (bT HT) ?_
        refine wpAnyE_done (by kernel_rfl) ?_ _
        replace HVA := Hd (show NumsF Wd (fun k => gv ≤ k) (.slice Ag ng cg) ev.args from HVA.out.chg (H := fun _ => False) (Chg.of_below HT.out) (fun b z => z.elim) (fun b z => .inl z))
        replace HXR := Hd (HXR.out.chg (H := fun _ => False) (G := fun k => gv ≤ k) (Chg.of_below HT.out) (fun b z => z.elim) (fun b z => .inl z))
        replace HTC := Hd (HTC.out.chg (H := fun _ => False) (G := fun k => gv ≤ k) (Chg.of_below HT.out) (fun b z => z.elim) (fun b z => .inl z))
        replace KT1 := Hd (bcell HT.out KT1.out)
        replace KT2 := Hd (bcell HT.out KT2.out)
        replace HTS := Hd (HTS.out.upto (HT.out.mono (Nat.le_of_lt HBV.out.lt)))
        replace HWW := Hd (HWW.out.trans (HT.out.mono HWW.out.size))
        replace HX24 := Hd (HX24.out.below HT.out HX24.out.lt)
        replace HB25 := Hd (HB25.out.below HT.out HB25.out.lt)
        replace HBV := Hd (HBV.out.below HT.out HBV.out.lt)
        clear HT KE0 KE4 KE5 KT0
        have hnx5 : ng = nx := HEA.out
        subst hnx5
        go_upto_region 31 with fail
        go_loopw [26] (fun kv wv => ∃ k : Nat, k ≤ ng ∧ kv = .int .i64 (k : Int) ∧ Hid (Below Wd.heap.size Wd wv)) (fun kv _ => ng - (intOf kv).toNat)
        case atStart => exact ⟨0, by omega, rfl, Below.refl _ _⟩
        case round =>
         obtain ⟨k, hk, rfl, HK⟩ := hrel
         rename World => wv
         have k25 : wv.cell? ⟨b25, 5, none⟩ = some (.slice Ag ng cg) := (HK.out.cell (p := ⟨b25, 5, none⟩) HB25.out.lt).trans (HB25.out.cell 5)
         by_cases hlt2 : k < ng
         ·obtain ⟨agd, xk, rfl, _, hxk, _, hck⟩ := HVA.out.at_ hlt2
          have ck : wv.cell? (agd.add k) = some (.int .i64 xk) := bcell HK.out hck
          have hev2 := HKE.out.2.2.2 k hlt2
          rw [List.getD_eq_getElem?_getD, hxk] at hev2
          obtain ⟨vk, hvk⟩ : ∃ z, la.getD k 0 = z := ⟨_, rfl⟩
          rw [hvk] at hev2
          have HE2 := Hd (show evP rr.p.T V xk = some vk from hev2)
          obtain ⟨adx, hAx, _, _, hcx⟩ := HXR.out.2 (by omega)
          have hck2 : Wd.cell? (adx.add k) = some (.int .u64 vk) := hcx k _ (by
           rw [List.getElem?_map, List.getElem?_eq_getElem (by rw [HLA.out]; exact hlt2)]
           rw [List.getD_eq_getElem?_getD, List.getElem?_eq_getElem (by rw [HLA.out]; exact hlt2)] at hvk
           exact congrArg (fun z => some (Value.int .u64 z)) hvk)
          subst hAx
          have HK2 := Hd (And.intro hck2 KT1.out)
          clear hck hev2 hcx hck2 hxk hvk
          have hew := (HTS.out.endW HBV.out HSG.out.len HSG.out.u64 (by have := HTS.out.blks.len; have := blkL_few HSH.out.pr; omega) (by have := HM5.out; omega) HP.out.2.2.2.2.2.2).below HK.out
          have HEW := Hd hew
          clear hew
          go_upto_region 33 with fail
          go_wp2_with fail
          refine (HEW.out.eval HTS.out.pool.wf HE2.out).mono ?_
          rintro e wx ⟨rfl, hb⟩
          replace HK := Hd (HK.out.trans (hb.mono HK.out.size))
          have cx1 : wx.cell? ⟨adt.block, adt.off + 1, none⟩ = some (.slice (some adx) ng cx) := bcell HK.out HK2.out.2
          have cx2 : wx.cell? (adx.add k) = some (.int .u64 vk) := bcell HK.out HK2.out.1
          have g3 : (vk != vk) = false := by simp
          have hnt0 : 0 < nt := HNT.out
          have hng5 : ng ≤ 5 := HNG.out.2.2.2
          clear hb ck k25 HEW
          go_upto_region 34 with fail
          go_wp2_with fail
          go_roundw
          case measure => simp [intOf]; omega
          case rel => exact ⟨k + 1, by omega, by go_num, HK.out⟩
         ·obtain rfl : k = ng := by omega
          have hbr70 : br < 70 := HBR.out
          have hnt0 : 0 < nt := HNT.out
          have c36 : wv.cell? ⟨adt.block, adt.off + 2, none⟩ = some (.int .u64 vb) := bcell HK.out (by
           have h := KT2.out
           simpa [Addr.add] using h)
          have hb36 : Blk wv gv 31 (u64C V).toArray := HBV.out.below HK.out HBV.out.lt
          have cv : wv.cell? ⟨gv, 38 + 3 * br, none⟩ = some (.int .u64 (V.getD (38 + 3 * br) 0)) := u64_cell hb36 (by have := HSG.out.len; omega)
          have fv := hb36.frozen (38 + 3 * br)
          have HB36 := Hd hb36
          clear hb36
          go_upto_region 37 with fail
          have hgle : gv ≤ Wd.heap.size := Nat.le_of_lt HBV.out.lt
          have hgx : Below gv wv (wv.setCell ⟨gv, 38 + 3 * br, none⟩ (.int .u64 vb)) := Chg.below (F := fun b => b = gv) (chg_setCell (c := ⟨gv, 38 + 3 * br, none⟩) rfl _ rfl) (fun b e => Nat.le_of_eq e.symm) (Nat.le_of_lt HB36.out.lt)
          have hgw : Below gv Wd (wv.setCell ⟨gv, 38 + 3 * br, none⟩ (.int .u64 vb)) := (HK.out.mono hgle).trans hgx
          have hbv : Blk (wv.setCell ⟨gv, 38 + 3 * br, none⟩ (.int .u64 vb)) gv 31 (u64C (V.set (38 + 3 * br) vb)).toArray := by rw [← u64C_set]; exact HB36.out.set_ _ _
          generalize wv.setCell ⟨gv, 38 + 3 * br, none⟩ (.int .u64 vb) = ws at hgw hbv ⊢
          have HTS3 := Hd (HTS.out.upto hgw)
          have HTC3 := Hd (HTC.out.chg (H := fun k => gv ≤ k) (G := fun k => gv ≤ k) (chg_of_low hgw) (fun b z => .inl z) (fun b z => .inl z))
          have HWW3 := Hd (HWW.out.trans (hgw.mono HGV.out))
          have HBV3 := Hd hbv
          have HN3 := Hd (show nt - 1 = T'.length by have := HNT2.out; omega)
          have hnt1 : 1 ≤ nt := hnt0
          clear hgle hgx hgw hbv cv fv c36 k25 HB36
          go_wp2_with fail
          go_roundw
          case measure => simp [intOf]; omega
          case rel => exact ⟨j + 1, n' + 1, br + 1, nt - 1, V.set (38 + 3 * br) vb, T', _, ct' - 1, rfl, by go_num, by go_num, by go_num, by omega, Hd ⟨HENX.out.1, HENX.out.2, HN3.out, HSG2.out, HTC3.out, HTS3.out, HBV3.out, HWW3.out⟩⟩
    ·-- CASE fin
     as_aux_lemma =>
      have hjs : j = ins.length := by rw [HZ0.out]; omega
      have hjz2 : j = sz := by omega
      have hsg : Sg l ins f r0 q ins.length V Tj := by rw [← hjs]; exact HSG.out
      have R := HRUN.out V HSG.out.len HSG.out.u64 HSG.out.t11
      have hne' : n' = ne := by
       have h1 := R.evs.len
       rw [HNE.out.1, ← mOf_all, ← hjs, ← HM1.out.1] at h1
       exact h1.symm
      subst hne'
      have KSA := Hd (show ∀ j u, (srcC rr.regs (.slice Ae n' ce) rr.ex)[j]? = some u → wr.cell? ((⟨b16, 0, none⟩ : Addr).add j) = some u from blk_list HTS.out.sbox)
      have cs11 : wr.cell? ⟨b16, 11, none⟩ = some (.slice Ae n' ce) := src_cell HRL.out HTS.out.sbox 0
      have KEND := Hd (show Calls prog 33 #[.pointer (some ⟨g, 0, none⟩), .slice (some adb) nb cb, .agg (srcC rr.regs (.slice Ae n' ce) rr.ex).toArray, .slice (some ⟨gv, 0, none⟩) 260 260, .slice (some ada) m1 c1, .slice (some ads) m1 c2, .int .i64 (sz : Int)] wr fun e w' => e = .returned (.bool true) ∧ Below wr.heap.size wr w' by
       have hE := HTS.out.endW HBV.out HSG.out.len HSG.out.u64 (by have := HTS.out.blks.len; have := blkL_few HSH.out.pr; omega) (by have := HM5.out; omega) HP.out.2.2.2.2.2.2
       by_cases hf : sz < m1
       ·obtain ⟨p', hq', hpl', s', hs1, hs2⟩ := HP.out.2.2.1 sz hf
        have hq2 : q[ins.length]? = some p' := by rw [HZ0.out]; exact hq'
        obtain ⟨hk0, k, hto, bd, hbd, hfr⟩ := Sg.exit HSH.out hsg hq2
        have hrg := hsg.regs p' hq2
        refine ends_on hE HTS.out.pool.wf HRL.out (by rw [R.kind]; exact hk0) (fun e => R.v (by omega)) hf (by rw [R.kind, R.tgt, R.els]; exact hto) hbd (by rw [hpl', hfr]) hs1 (fun i hi => ?_)
        have h := R.regs.reg i hi
        rw [hs2, ← hrg, mOf_all]
        exact h
       ·have h6 : x.kind = 6 := HP.out.2.2.2.2.2.1.elim (fun z => by have := HZ0.out; omega) (fun z => z.1)
        have hms : m1 = sz := by have := HP.out.2.2.2.2.1; have := HZ0.out; omega
        obtain ⟨k, hk⟩ : ∃ k, m1 = k + 1 := ⟨m1 - 1, by have := HSZ.out.2.2.1; omega⟩
        obtain ⟨p', hq', _, s', hs1, hs2⟩ := HP.out.2.2.1 k (by omega)
        have hi1 : ins.length - 1 = k := by have := HZ0.out; omega
        have hbk := hsg.back x p' rfl HSH.out.last h6 (by rw [hi1]; exact hq')
        have hX : endsV (mOf V r0 ins ins.length) x (nextOf (begB l) b i x) = ⟨0, (mOf V r0 ins ins.length).reg 0, 0, 0⟩ := by unfold endsV; rw [if_pos h6]
        have hkd : rr.ex.kind = 0 := by rw [R.kind, hX]
        rw [← hms]
        refine ends_exit hE HTS.out.pool.wf HRL.out hkd (R.v (by rw [hkd]; decide)) hk hs1 ?_
        rw [hX, hs2, ← hbk]
        rfl)
      clear hsg R
      go_upto_region 45 with fail
      go_wp2_with (first
       | (refine wpList_load_g (by rfl) 65 (.tmp 16) rfl ⟨b16, 0, none⟩ (by rfl) (srcC rr.regs (.slice Ae n' ce) rr.ex) _ KSA.out underlying65 rfl (by rw [srcC_len HRL.out]; exact sizS) ?_)
       | fail)
      refine KEND.out.mono ?_
      rintro e wq ⟨rfl, hb⟩
      have HBQ := Hd hb
      clear hb
      go_wp2
      go_ret
      exact ⟨rfl, HWW.out.trans (HBQ.out.mono HWW.out.size)⟩
end Go.Proofs.YtepagfkkjlbipaaGreat
