/-
  Parts of the proof of SymbcRuns. Conditions: those written in each statement.
-/
import Derived.Test.YtepagfkkjlbipaaGreatKbe
import Derived.Test.YtepagfkkjlbipaaGreatKbe
import Derived.Test.YtepagfkkjlbipaaGreatKbd
import Derived.Test.YtepagfkkjlbipaaGreatBo
import Derived.Deep.LoopGhost
set_option linter.unusedVariables false
set_option linter.unusedSimpArgs false
set_option maxHeartbeats 64000000
set_option maxRecDepth 100000
namespace Go.Proofs.YtepagfkkjlbipaaGreat
open Go.RowKit
open Tryz
section
noncomputable def zdx (p : PS)(c : Int)(l : List ID)(block : Int)(regs : List Int) : zqs :=
 if (zdj c l).2 ≠ 0 then ⟨p,zan,[],zaZ,(zdj c l).2⟩
 else if zgr p l block regs = false then ⟨p,zan,[],zaZ,2⟩
 else
  let m := goV p l block regs
  if m.err ≠ 0 then ⟨m.p,zan,[],zaZ,m.err⟩
  else
   let q := m.dends (l.getD ((za2 l block).upto - 1).toNat zc0) (za2 l block).next
   if q.1.err ≠ 0 then ⟨q.1.p,zan,[],zaZ,q.1.err⟩ else ⟨q.1.p,q.1.regs,q.1.evs,q.2,0⟩
def RunR (base g : Nat)(F : Nat → Prop)(w : World)(r : zqs)(e : Ending)(w' : World) : Prop :=
 ∃ es F',e = .returned (.tuple #[.agg (zcF r.regs es r.ex).toArray,.int .i64 r.err]) ∧ RG base g F w F' r.p w' ∧ zbt w' (fun k => F' k ∨ k < w.heap.size) es r.evs ∧ es.oneCell' = true
theorem zjo {p : PS}{c : Int}{l : List ID}{block : Int}{regs : List Int}(h : (zdj c l).2 ≠ 0) : zdx p c l block regs = ⟨p,zan,[],zaZ,(zdj c l).2⟩ := by unfold zdx; rw [if_pos h]
theorem zfr {p : PS}{c : Int}{l : List ID}{block : Int}{regs : List Int}(h : (zdj c l).2 = 0)(h2 : zgr p l block regs = false) : zdx p c l block regs = ⟨p,zan,[],zaZ,2⟩ := by unfold zdx; rw [if_neg (by rw [h]; simp),if_pos h2]
theorem zlF {p : PS}{c : Int}{l : List ID}{block : Int}{regs : List Int}(h : (zdj c l).2 = 0)(h2 : zgr p l block regs = true) : zdx p c l block regs =
  if (goV p l block regs).err ≠ 0 then ⟨(goV p l block regs).p,zan,[],zaZ,(goV p l block regs).err⟩
  else if ((goV p l block regs).dends (l.getD ((za2 l block).upto - 1).toNat zc0) (za2 l block).next).1.err ≠ 0 then ⟨((goV p l block regs).dends (l.getD ((za2 l block).upto - 1).toNat zc0) (za2 l block).next).1.p,zan,[],zaZ,((goV p l block regs).dends (l.getD ((za2 l block).upto - 1).toNat zc0) (za2 l block).next).1.err⟩
  else ⟨((goV p l block regs).dends (l.getD ((za2 l block).upto - 1).toNat zc0) (za2 l block).next).1.p,((goV p l block regs).dends (l.getD ((za2 l block).upto - 1).toNat zc0) (za2 l block).next).1.regs,((goV p l block regs).dends (l.getD ((za2 l block).upto - 1).toNat zc0) (za2 l block).next).1.evs,((goV p l block regs).dends (l.getD ((za2 l block).upto - 1).toNat zc0) (za2 l block).next).2,0⟩ := by
 unfold zdx;rw [if_neg (by rw [h]; simp),if_neg (by rw [h2]; simp)]
section
variable {base g : Nat}{F : Nat → Prop}{p : PS}{w : World}
theorem RG.own {F1 : Nat → Prop}{p1 : PS}{w1 w2 : World}{b : Nat}(h : RG base g F w F1 p1 w1)(hb : ¬ F1 b)(hw : w.heap.size ≤ b)(hc : Chg (fun k => k = b) w1 w2) : RG base g F w F1 p1 w2 :=
 ⟨h.pool.chg hc (fun k q e => hb (e ▸ q)),⟨hc.os.trans h.chg.os,hc.tape.trans h.chg.tape,hc.output.trans h.chg.output,zto h.chg.size hc.size,fun k hk hn => (hc.block k (zty hk h.chg.size) (by omega)).trans (h.chg.block k hk hn)⟩,h.new⟩
end
section
variable {base g b : Nat}{F F' G' : Nat → Prop}{p : PS}{regs : List Int}{m : SM}{ex : ExD}{w w1 w2 : World}
theorem DA.start (h : zaO w base F g p)(hB : Blk w b 120 (mC g regs (.slice none 0 0) zaZ 0).toArray)(hb : base ≤ b)(hF : ¬ F b)(hl : regs.length = 11)(hr : ∀ r ∈ regs,I64 r) : DA base g b F (fun k => F k ∨ k = b) (SM.mk p regs [] 0) zaZ w where
 pool := h
 box := ⟨.slice none 0 0,[],hB,⟨rfl,.inl ⟨rfl,rfl⟩⟩,rfl,by simp,fun k e => by cases e⟩
 nb := ⟨hF,.inr rfl⟩
 sub := fun k q => .inl q
 low := fun k q => q.elim (fun q => h.fb k q) (fun e => by subst e; exact ⟨hb,hB.lt⟩)
 len := hl
 rng := hr
 few := by simp
theorem DG.pgo (h : RG base g F w F p w1)(k : DG base g b (fun c => F c ∨ c = b) w1 F' G' m ex w2)(hb : w.heap.size ≤ b) : RG base g F w F' m.p w2 :=
 ⟨k.at_.pool,h.chg.trans k.chg (fun c q => q.elim .inl (fun e => .inr (e ▸ hb))),fun c q => (k.new c (k.at_.sub c q)).elim (fun q => q.elim .inl (fun e => .inr (e ▸ hb))) (fun e => .inr (zto h.chg.size e))⟩
theorem DA.out (h : DA base g b F' G' m ex w2) : ∃ es,Blk w2 b 120 (mC g m.regs es ex m.err).toArray ∧ zbt w2 (fun k => F' k ∨ k ≤ b) es m.evs ∧ es.oneCell' = true := by
 obtain ⟨es,q,h1,h2,h3,h4,h5⟩ := h.box;obtain ⟨A,c,e,hc,hR⟩ := za5.of_own (F := fun k => F' k ∨ k ≤ b) h2 (fun k hk q => q.elim (h5 k hk).2.1 (fun e => by have := (zaQ h2 k hk).1; omega));refine ⟨es,h1,⟨A,c,q,e,hc,h3,hR,fun p hp => ⟨(h4 p hp).1,(h4 p hp).2.chg (H := fun _ => False) (Chg.refl _ w2) (fun _ q => q.elim) (fun k q => .inl (q.elim (fun q => .inl (h.sub k q)) .inr))⟩⟩,?_⟩;rw [e]
 rfl
end
theorem zko (g : Nat)(w : World) : (Instr.build 120 #[(0,.pointer (some ⟨g,0,none⟩))]).run prog w = .ok (.agg (mC g zan (.slice none 0 0) zaZ 0).toArray) w := run_build w 120 _ _ (by kernel_rfl)
theorem zjp {base g : Nat}{F : Nat → Prop}{p : PS}{w : World}(h : zaO w base F g p) : Calls prog 49 #[.pointer (some ⟨g,0,none⟩)] w fun e w' => e = .returned (.int .i64 (p.T.length : Nat)) ∧ w = w' := by
 obtain ⟨A,c,D,d,h1,h2,_,h4,h5,_⟩ := h.view;obtain ⟨n,hn⟩ : ∃ n,p.T.length = n := ⟨_,rfl⟩;rw [hn] at h1 h2 ⊢;clear hn h h4 h5;go_enter func49,ntmps49;go_wp2;go_ret;exact ⟨rfl,rfl⟩
theorem zcX (b : Nat){d : Nat}(hd : d < 11)(w : World) : (Instr.indexAt 57 (.pointer (some ⟨b,0,none⟩)) (.int .i64 (d : Int))).run prog w = .ok (.pointer (some ⟨b,d,none⟩)) w := by
 go_simp;intro h;omega
theorem znZ {g : Nat}{regs : List Int}{es : Value}{ex : ExD}{er : Int}(hl : regs.length = 11) : zaM (mC g zan es ex er) 1 (rgC regs) = mC g regs es ex er := by
 match regs,hl with
 | [a0,a1,a2,a3,a4,a5,a6,a7,a8,a9,a10],_ => rfl
theorem zlG {p : PS}{regs : List Int}{ok : Bool}{k : Nat}(hk : k ≤ 11)(hl : regs.length = 11)(h : okK p regs ok k = false) : okK p regs ok 11 = false := by
 unfold okK at h ⊢
 cases ok
 ·rfl
 ·simp only [ztG] at h ⊢
  rw [← List.take_append_drop k (regs.take 11),List.all_append,List.take_take,Nat.min_eq_left hk,h]
  rfl
section
variable {base g b : Nat}{F G F1 G1 : Nat → Prop}{m : SM}{ex : ExD}{w : World}
theorem zlH (h : DA base g b F G m ex w)(x : ID)(hx : x.wf)(hm : ze8 x = true){An : Option Addr}{nn cn : Nat}{nx : List Int}(hn : zbk w G (.slice An nn cn) nx)(h1 : x.kind ≠ 6 → 1 ≤ nn)(h2 : x.kind = 3 → nn = 2)(hnz : NZ m.p) :
  Calls prog 51 #[.pointer (some ⟨b,0,none⟩),.agg x.cells.toArray,.slice An nn cn] w (znC base g b G (m.dends x nx).2 w (m.dends x nx).1) := by
 have M := zcC hm
 by_cases k6 : x.kind = 6
 ·exact znu h x k6 _ nx
 by_cases k3 : x.kind = 3
 ·have hnn := h2 k3
  have hc := M.cond k3;exact zkZ h x hx k3 M.dst (fun _ => M.src) (by omega) hnz hn (by omega)
 ·exact znv h x k6 k3 hn (by have := h1 k6; omega)
end
section
variable {base g : Nat}{F : Nat → Prop}{p : PS}{w : World}
theorem zn0 (h : zaO w base F g p)(hbase : base ≤ w.heap.size)(c : Int)(A : Option Addr)(n cap : Nat)(l : List ID)(hh : ze9 w F A n l)(hc : n ≤ cap)(hm : n < 9223372036854775808)(block : Int)(hbk : I64 block)(regs : List Int)(hl : regs.length = 11)(hr : ∀ r ∈ regs,I64 r)(hnz : (zdj c l).2 = 0 → zgr p l block regs = true → NZ (goV p l block regs).p) :
  Calls prog 19 #[.pointer (some ⟨g,0,none⟩),.agg #[.int .i64 c,.slice A n cap],.int .i64 block,.agg (rgC regs).toArray] w (RunR base g F w (zdx p c l block regs)) := by
 have zs := zgY;obtain ⟨w1,hw1⟩ : ∃ v,((w.alloc (.cells #[.int .i64 c,.slice A n cap] 24)).alloc (.cells (rgC regs).toArray 57)).alloc (.cells zaq.toArray 65) = v := ⟨_,rfl⟩;have hb0 : Below w.heap.size w w1 := by rw [← hw1]; exact (((Below.refl _ w).alloc (ztn _) _).alloc (by simp) _).alloc (by simp; omega) _
 have hs1 : w1.heap.size = w.heap.size + 3 := by rw [← hw1]; simp
 have HP := Hd (RG.of_below h hb0)
 have HNZ := Hd hnz
 have HB5 := Hd (show Blk w1 w.heap.size 24 #[.int .i64 c,.slice A n cap] by rw [← hw1]; exact ((Blk.new w 24 #[.int .i64 c,.slice A n cap]).alloc _).alloc _)
 have HB7 := Hd (show Blk w1 (w.heap.size + 1) 57 (rgC regs).toArray by
  rw [← hw1];have := (Blk.new (w.alloc (.cells #[.int .i64 c,.slice A n cap] 24)) 57 (rgC regs).toArray).alloc (.cells zaq.toArray 65)
  simpa using this)
 have HB8 := Hd (show Blk w1 (w.heap.size + 2) 65 zaq.toArray by
  rw [← hw1];have := Blk.new ((w.alloc (.cells #[.int .i64 c,.slice A n cap] 24)).alloc (.cells (rgC regs).toArray 57)) 65 zaq.toArray
  simpa using this)
 have HNF := Hd (fun b (hb : w.heap.size ≤ b) q => by have := (h.fb b q).2; omega : ∀ b,w.heap.size ≤ b → ¬ F b)
 have HI := Hd (hh.chg (G := fun k => F k ∨ w.heap.size ≤ k) (Chg.of_below hb0) (fun k q => .inr q) (fun k q => q))
 have HBS := Hd hbase
 have HS1 := Hd hs1
 have HL := Hd (ztp hl hr)
 have HM := Hd (ztp hc hm)
 have HBK := Hd hbk
 have c50 : w1.cell? ⟨w.heap.size,0,none⟩ = some (.int .i64 c) := HB5.out.cell 0;have c51 : w1.cell? ⟨w.heap.size,1,none⟩ = some (.slice A n cap) := HB5.out.cell 1;obtain ⟨b5,hb5⟩ : ∃ k,w.heap.size = k := ⟨_,rfl⟩;have HB5e := Hd hb5
 rw [hb5] at HB5 HB7 HNF HS1 HI c50 c51;replace HB8 := Hd (show Blk w1 (b5 + 1 + 1) 65 zaq.toArray by rw [← hb5]; exact HB8.out)
 clear h hb0 hbase hh hc hm hl hr hbk hs1 hnz;go_enter func19,ntmps19;go_wp2_with fail
 refine (zoH c A n cap l _ HI.out.ins HM.out.1 HM.out.2).mono ?_;rintro e w2 ⟨A2,cap2,rfl,hcap2,hbks,hb2⟩;replace HP := Hd (HP.out.step hb2)
 have HL5 := HB5.out.lt;have HL7 := HB7.out.lt;have HL8 := HB8.out.lt;replace HB5 := Hd (HB5.out.below hb2 HL5)
 replace HB7 := Hd (HB7.out.below hb2 HL7)
 replace HB8 := Hd (HB8.out.below hb2 HL8)
 replace HI := Hd (HI.out.step hb2)
 have HBKS := Hd hbks
 have HBE := Hd hb2.size
 clear hbks hb2 c50 c51 hb5 hw1 HL5 HL7 HL8;obtain ⟨er,her⟩ : ∃ v,(zdj c l).2 = v := ⟨_,rfl⟩;obtain ⟨nb,hnb⟩ : ∃ v,(ziM c l).length = v := ⟨_,rfl⟩;rw [her,hnb];rw [hnb] at hcap2 HBKS;have HER := Hd her
 have HNB := Hd hnb
 clear her hnb
 cases he : (er != 0);rotate_left
 ·have HV := Hd (show zdx p c l block regs = ⟨p,zan,[],zaZ,er⟩ by
   rw [← HER.out];exact zjo (by rw [HER.out]; simpa using he))
  go_wp2_with (first
   | (refine zae rfl 65 (.tmp 8) rfl ⟨b5 + 1 + 1,0,none⟩ (by rfl) zaq _ (zak HB8.out) underlying65 rfl zeE ?_)
   | (refine zaa rfl 65 (.tmp 8) (.tmp 26) rfl (b5 + 1 + 1) 0 65 zaq zaq (.agg zaq.toArray) HB8.out (by rfl) (by rfl) rfl zeE (by rw [zbC]; decide) zbQ ?_
      intro wq hBq hgq hsq;have HBQ := Hd hBq
      have HPQ := Hd (HP.out.own (b := b5 + 1 + 1) (HNF.out _ (by omega)) (by have := HB5e.out; omega) (Chg.of_grown hgq (fun k e => .inl (by injection e with e; exact e.symm))))
      clear hBq hgq hsq)
   | fail)
  have hrl := zbR HBQ.out rfl rfl;refine bodyPost_ret (v := .tuple #[.agg zaq.toArray,.int .i64 er]) ?_ rfl ⟨.slice none 0 0,_,by rw [HV.out]; rfl,by rw [HV.out]; exact HPQ.out,by rw [HV.out]; exact zbt.nil,rfl⟩;simp [results,results19,Act.put,asAddr,Result.andThen,hrl]
 have he0 : er = 0 := by simpa using he
 subst he0;have HR := Hd (show ziM c l = zeX l by unfold ziM; rw [if_pos HER.out])
 rw [HR.out] at HBKS HNB;clear HR he;have h0b := HBK.out.1;have h1b := HBK.out.2;have hnb64 : nb ≤ cap2 := hcap2;obtain ⟨ok0,hok0⟩ : ∃ b,(decide (0 ≤ block) && decide (block < (nb : Int))) = b := ⟨_,rfl⟩;have HOK0 := Hd hok0
 have HA := Hd (show zgr p l block regs = okK p regs ok0 11 by
  rw [znq HL.out.1,← hok0];unfold zgr;rw [HNB.out,Bool.and_assoc])
 clear hok0
 cases ok0
 ·have HV := Hd (zfr (p := p) (c := c) (l := l) (block := block) (regs := regs) HER.out (by rw [HA.out]; unfold okK; rfl))
  have h0 := HOK0.out;clear HOK0 HA;have key : decide (block < 0) = true ∨ decide (block < 0) = false ∧ decide ((nb : Int) ≤ block) = true := by
   simp only [zuj,decide_eq_false_iff_not] at h0;simp only [decide_eq_true_eq,decide_eq_false_iff_not];omega
  clear h0
  rcases key with k0 | ⟨k0,k1⟩
  all_goals
   go_wp2_with (first
    | (refine zae rfl 65 (.tmp 8) rfl ⟨b5 + 1 + 1,0,none⟩ (by rfl) zaq _ (zak HB8.out) underlying65 rfl zeE ?_)
    | (refine zaa rfl 65 (.tmp 8) (.tmp 36) rfl (b5 + 1 + 1) 0 65 zaq zaq (.agg zaq.toArray) HB8.out (by rfl) (by rfl) rfl zeE (by rw [zbC]; decide) zbQ ?_
       intro wq hBq hgq hsq;have HBQ := Hd hBq
       have HPQ := Hd (HP.out.own (b := b5 + 1 + 1) (HNF.out _ (by omega)) (by have := HB5e.out; omega) (Chg.of_grown hgq (fun k e => .inl (by injection e with e; exact e.symm))))
       clear hBq hgq hsq)
    | fail)
   have hrl := zbR HBQ.out rfl rfl;refine bodyPost_ret (v := .tuple #[.agg zaq.toArray,.int .i64 2]) ?_ rfl ⟨.slice none 0 0,_,by rw [HV.out]; rfl,by rw [HV.out]; exact HPQ.out,by rw [HV.out]; exact zbt.nil,rfl⟩;simp [results,results19,Act.put,asAddr,Result.andThen,hrl]
 have h0 := HOK0.out;simp only [ztr,decide_eq_true_eq] at h0;have hbk0 := h0.1;have hbk1 := h0.2;clear HOK0 h0;have k0 : decide (block < 0) = false := by simp; omega
 have k1 : decide ((nb : Int) ≤ block) = false := by simp; omega
 go_wp2_with fail
 go_loopw [12] (fun i wr => ∃ k : Nat,k ≤ 11 ∧ i = .int .i64 k ∧ Hid (okK p regs true k = true) ∧ Hid (Below w2.heap.size w2 wr)) (fun i _ => 11 - (intOf i).toNat)
 case atStart => exact ⟨0,by omega,rfl,by unfold Hid okK; simp,Below.refl _ _⟩
 case round =>
  obtain ⟨k,hk,rfl,HOK,HB⟩ := hrel
  rename World => wr
  by_cases hlt : k < 11
  ·have hrk : regs[k]? = some (regs[k]'(by rw [HL.out.1]; exact hlt)) := ztq _
   obtain ⟨r,hrr⟩ : ∃ r,regs[k]'(by rw [HL.out.1]; exact hlt) = r := ⟨_,rfl⟩;rw [hrr] at hrk;have hri := HL.out.2 r (ztv hrk);have h0r := hri.1;have h1r := hri.2;have HSU := Hd (zj9 (p := p) (ok := true) hrk)
   have HPW := Hd ((HP.out.step HB.out).step ((Below.refl _ _).drew))
   have hpl := HPW.out.pool.few;obtain ⟨pl,hpl2⟩ : ∃ n,p.T.length = n := ⟨_,rfl⟩;rw [hpl2] at hpl HSU;have HPL := Hd hpl2
   have HT := Hd (show wr.drew.cell? ⟨b5 + 1,k,none⟩ = some (.int .i64 r) from by
    have h1 := (HB7.out.below HB.out HB7.out.lt).cell k;have h2 : (rgC regs)[k]? = some (.int .i64 r) := by unfold rgC; rw [ztw,hrk]; rfl
    rw [ztK,h2] at h1;exact h1)
   clear hrk hrr hri hpl2;go_upto_region 11 with fail
   have HBD := Hd (show Below w2.heap.size w2 wr.drew from HB.out.drew)
   have hk64 : (k : Int) < 11 := by omega
   cases hr0 : decide (r < 0)
   ·cases hr1 : decide ((pl : Int) ≤ r)
    ·refine zac (fun w' => w'.cell? ⟨b5 + 1,k,none⟩ = some (.int .i64 r)) (fun _ => True) [] (by kernel_rfl) ?_
     generalize wr.drew = Wd at HT HPW HBD ⊢;refine em 0 (.int .i64 (k : Int)) (bT HT) ?_;refine ej 1 (.pointer (some ⟨b5 + 1,0,none⟩)) (.int .i64 (k : Int)) (.pointer (some ⟨b5 + 1,k,none⟩)) (zcX _ hlt) (bT HT) ?_;refine el false 2 ⟨b5 + 1,k,none⟩ (.int .i64 r) underlying3 (fun w hS => hS.1) (bT HT) ?_;refine eg 3 (.bool false) (bT HT) ?_;refine em 4 (.bool false) (bT HT) ?_;refine em 5 (.int .i64 (k : Int)) (bT HT) ?_;refine ej 6 (.pointer (some ⟨b5 + 1,0,none⟩)) (.int .i64 (k : Int)) (.pointer (some ⟨b5 + 1,k,none⟩)) (zcX _ hlt) (bT HT) ?_;refine el false 7 ⟨b5 + 1,k,none⟩ (.int .i64 r) underlying3 (fun w hS => hS.1) (bT HT) ?_;refine em 8 (.pointer (some ⟨g,0,none⟩)) (bT HT) ?_;refine ec 9 (zjp HPW.out.pool) ?_;rintro e wq ⟨rfl,rfl⟩;rw [HPL.out];refine ek (bT HT) ?_;refine eg 10 (.bool false) (bT HT) ?_;refine ep 11 false (.bool false) (bT HT) ?_;refine zab (by kernel_rfl) ?_ _;have HN := Hd (show okK p regs true (k + 1) = true by rw [HSU.out,HOK.out]; simp at hr0 hr1; simp; omega)
     clear HOK HB;go_wp2_with fail
     go_roundw
     case measure => simp [intOf]; omega
     case rel => exact ⟨k + 1,by omega,by go_num,HN.out,HBD.out⟩
    ·have HV := Hd (zfr (p := p) (c := c) (l := l) (block := block) (regs := regs) HER.out (by rw [HA.out]; exact zlG (k := k + 1) (by omega) HL.out.1 (by rw [HSU.out]; simp at hr1; simp; omega)))
     refine zac (fun w' => w'.cell? ⟨b5 + 1,k,none⟩ = some (.int .i64 r)) (fun _ => True) [] (by kernel_rfl) ?_;have HPW2 := Hd HPW.out
     have HB8q := Hd (HB8.out.below HBD.out HB8.out.lt)
     generalize wr.drew = Wd at HT HPW HPW2 HBD HB8q ⊢;refine em 0 (.int .i64 (k : Int)) (bT HT) ?_;refine ej 1 (.pointer (some ⟨b5 + 1,0,none⟩)) (.int .i64 (k : Int)) (.pointer (some ⟨b5 + 1,k,none⟩)) (zcX _ hlt) (bT HT) ?_;refine el false 2 ⟨b5 + 1,k,none⟩ (.int .i64 r) underlying3 (fun w hS => hS.1) (bT HT) ?_;refine eg 3 (.bool false) (bT HT) ?_;refine em 4 (.bool false) (bT HT) ?_;refine em 5 (.int .i64 (k : Int)) (bT HT) ?_;refine ej 6 (.pointer (some ⟨b5 + 1,0,none⟩)) (.int .i64 (k : Int)) (.pointer (some ⟨b5 + 1,k,none⟩)) (zcX _ hlt) (bT HT) ?_;refine el false 7 ⟨b5 + 1,k,none⟩ (.int .i64 r) underlying3 (fun w hS => hS.1) (bT HT) ?_;refine em 8 (.pointer (some ⟨g,0,none⟩)) (bT HT) ?_;refine ec 9 (zjp HPW.out.pool) ?_;rintro e wq ⟨rfl,rfl⟩;rw [HPL.out];refine ek (bT HT) ?_;refine eg 10 (.bool true) (bT HT) ?_;refine ep 11 false (.bool true) (bT HT) ?_;refine zab (by kernel_rfl) ?_ _;go_wp2_with (first
      | (refine zae rfl 65 (.tmp 8) rfl ⟨b5 + 1 + 1,0,none⟩ (by rfl) zaq _ (zak HB8q.out) underlying65 rfl zeE ?_)
      | (refine zaa rfl 65 (.tmp 8) (.tmp 53) rfl (b5 + 1 + 1) 0 65 zaq zaq (.agg zaq.toArray) HB8q.out (by rfl) (by rfl) rfl zeE (by rw [zbC]; decide) zbQ ?_
         intro wv hBq hgq hsq;have HBQ := Hd hBq
         have HPQ := Hd (HPW2.out.own (b := b5 + 1 + 1) (HNF.out _ (by omega)) (by have := HB5e.out; omega) (Chg.of_grown hgq (fun k e => .inl (by injection e with e; exact e.symm))))
         clear hBq hgq hsq)
      | fail)
     have hrl := zbR HBQ.out rfl rfl;refine bodyPost_ret (v := .tuple #[.agg zaq.toArray,.int .i64 2]) ?_ rfl ⟨.slice none 0 0,_,by rw [HV.out]; rfl,by rw [HV.out]; exact HPQ.out,by rw [HV.out]; exact zbt.nil,rfl⟩;simp [results,results19,Act.put,asAddr,Result.andThen,hrl]
   ·have HV := Hd (zfr (p := p) (c := c) (l := l) (block := block) (regs := regs) HER.out (by rw [HA.out]; exact zlG (k := k + 1) (by omega) HL.out.1 (by rw [HSU.out]; simp at hr0; simp; omega)))
    refine zac (fun w' => w'.cell? ⟨b5 + 1,k,none⟩ = some (.int .i64 r)) (fun _ => True) [] (by kernel_rfl) ?_;have HPW2 := Hd HPW.out
    have HB8q := Hd (HB8.out.below HBD.out HB8.out.lt)
    generalize wr.drew = Wd at HT HPW HPW2 HBD HB8q ⊢;refine em 0 (.int .i64 (k : Int)) (bT HT) ?_;refine ej 1 (.pointer (some ⟨b5 + 1,0,none⟩)) (.int .i64 (k : Int)) (.pointer (some ⟨b5 + 1,k,none⟩)) (zcX _ hlt) (bT HT) ?_;refine el false 2 ⟨b5 + 1,k,none⟩ (.int .i64 r) underlying3 (fun w hS => hS.1) (bT HT) ?_;refine eg 3 (.bool true) (bT HT) ?_;refine em 4 (.bool true) (bT HT) ?_;refine en 5 (bT HT) ?_;refine en 6 (bT HT) ?_;refine en 7 (bT HT) ?_;refine en 8 (bT HT) ?_;refine en 9 (bT HT) ?_;refine en 10 (bT HT) ?_;refine ep 11 true (.bool true) (bT HT) ?_;refine zab (by kernel_rfl) ?_ _;go_wp2_with (first
     | (refine zae rfl 65 (.tmp 8) rfl ⟨b5 + 1 + 1,0,none⟩ (by rfl) zaq _ (zak HB8q.out) underlying65 rfl zeE ?_)
     | (refine zaa rfl 65 (.tmp 8) (.tmp 53) rfl (b5 + 1 + 1) 0 65 zaq zaq (.agg zaq.toArray) HB8q.out (by rfl) (by rfl) rfl zeE (by rw [zbC]; decide) zbQ ?_
        intro wv hBq hgq hsq;have HBQ := Hd hBq
        have HPQ := Hd (HPW2.out.own (b := b5 + 1 + 1) (HNF.out _ (by omega)) (by have := HB5e.out; omega) (Chg.of_grown hgq (fun k e => .inl (by injection e with e; exact e.symm))))
        clear hBq hgq hsq)
     | fail)
    have hrl := zbR HBQ.out rfl rfl;refine bodyPost_ret (v := .tuple #[.agg zaq.toArray,.int .i64 2]) ?_ rfl ⟨.slice none 0 0,_,by rw [HV.out]; rfl,by rw [HV.out]; exact HPQ.out,by rw [HV.out]; exact zbt.nil,rfl⟩;simp [results,results19,Act.put,asAddr,Result.andThen,hrl]
  ·obtain rfl : k = 11 := by omega
   have HL5 := HB5.out.lt;have HL8 := HB8.out.lt;have HL7 := HB7.out.lt;replace HB7 := Hd (HB7.out.below HB.out HL7)
   replace HP := Hd (HP.out.step HB.out)
   replace HB5 := Hd (HB5.out.below HB.out HL5)
   replace HB8 := Hd (HB8.out.below HB.out HL8)
   replace HI := Hd (HI.out.step HB.out)
   replace HBKS := Hd (HBKS.out.chg (G := fun k => k < w1.heap.size) (Chg.of_below HB.out) (fun k q => .inr q) (fun k q => .inl q))
   replace HBE := Hd (zto HBE.out HB.out.size)
   replace HA := Hd (show zgr p l block regs = true by rw [HA.out]; exact HOK.out)
   have HLR := Hd (show (rgC regs).length = 11 by unfold rgC; rw [List.length_map]; exact HL.out.1)
   clear HB HL5 HL7 HL8 hk hlt HOK;obtain ⟨bn,hbn⟩ : ∃ bn : Nat,block = (bn : Int) := ⟨block.toNat,by omega⟩;have hbn2 : bn < nb := by omega
   subst hbn;clear hbk0 hbk1 h0b h1b k0 k1;have qb := fun (W : World) => zko g W
   go_upto_region 14 with (first
    | (refine zeU rfl 120 (.tmp 55) rfl (.agg (mC g zan (.slice none 0 0) zaZ 0).toArray) (mC g zan (.slice none 0 0) zaZ 0).toArray (by rfl) rfl ?_
       intro w3 bm hbm G3 L3;have HBM := Hd G3
       have HL3 := Hd L3
       have HBML := Hd hbm
       clear G3 L3 hbm)
    | fail)
   clear qb;replace HP := Hd (HP.out.step HL3.out)
   have HL5 := HB5.out.lt;have HL7 := HB7.out.lt;have HL8 := HB8.out.lt;replace HB5 := Hd (HB5.out.below HL3.out HL5)
   replace HB7 := Hd (HB7.out.below HL3.out HL7)
   replace HB8 := Hd (HB8.out.below HL3.out HL8)
   replace HI := Hd (HI.out.step HL3.out)
   replace HBKS := Hd (HBKS.out.chg (G := fun k => k < w1.heap.size ∨ k = bm) (Chg.of_below HL3.out) (fun k q => .inr q) (fun k q => q.elim .inl (fun e => .inr (e ▸ HBML.out))))
   have HBM1 := Hd (show w1.heap.size ≤ bm from zto HBE.out HBML.out)
   replace HBE := Hd (zto HBE.out HL3.out.size)
   have hnF : ¬ F bm := HNF.out _ (by have := HBM1.out; have := HS1.out; omega);have HNFm := Hd hnF
   clear HL3 HBML hnF HL5 HL7 HL8;go_upto_region 15 with (first
    | (refine zae rfl 57 (.tmp 7) rfl ⟨b5 + 1,0,none⟩ (by rfl) (rgC regs) _ (zak HB7.out) underlying57 rfl (by rw [HLR.out]; exact zee) ?_)
    | (refine zaa rfl 57 (.tmp 61) (.tmp 58) rfl bm 1 120 (mC g zan (.slice none 0 0) zaZ 0) (rgC regs) (.agg (rgC regs).toArray) HBM.out (by rfl) (by rfl) rfl (by rw [HLR.out]; exact zee) (by rw [HLR.out]; simp [mC,zan]) (zb9 _) ?_
       intro w4 hBq hgq hsq;have HB4 := Hd hBq
       have HG4 := Hd hgq
       clear hBq hgq hsq)
    | fail)
   replace HBM := Hd (show Blk w4 bm 120 (mC g regs (.slice none 0 0) zaZ 0).toArray by
    have h1 := HB4.out;rw [znZ HL.out.1] at h1;exact h1)
   have HC4 := Hd (Chg.of_grown (F := fun k => k = bm) HG4.out (fun k e => .inl (by injection e with e; exact e.symm)))
   clear HB4 HG4;replace HP := Hd (HP.out.own (b := bm) HNFm.out (by have := HBM1.out; have := HS1.out; have := HB5e.out; omega) HC4.out)
   replace HB5 := Hd (HC4.out.blk HB5.out (by have := HBM1.out; have := HS1.out; omega))
   replace HB8 := Hd (HC4.out.blk HB8.out (by have := HBM1.out; have := HS1.out; omega))
   replace HI := Hd (HI.out.chg (G := fun k => F k ∨ b5 ≤ k) HC4.out (fun k e => .inl (.inr (by subst e; have := HBM1.out; have := HS1.out; omega))) (fun k q => .inl q))
   replace HBKS := Hd (HBKS.out.chg (G := fun k => k < w1.heap.size ∨ k = bm) HC4.out (fun k e => .inl (.inr e)) (fun k q => .inl q))
   replace HBE := Hd (zto HBE.out HC4.out.size)
   have HMS := Hd (DA.start HP.out.pool HBM.out (by have := HBM1.out; have := HS1.out; have := HBS.out; have := HB5e.out; omega) HNFm.out HL.out.1 HL.out.2)
   clear HB7 HBM HC4
   -- the block
   obtain ⟨_,_,hn1,hn64,hok,_,_⟩ := zg1 HER.out;have HOK := Hd hok
   have HLN := Hd HI.out.1
   obtain ⟨ad,x,sv,hA2,hab,hnab,hx,hxw,hxn,hcell⟩ := HBKS.out.at_ hbn2;subst hA2;obtain ⟨i0,y0,hbf⟩ := zga (by omega) hn64 hok (ztv hx);obtain ⟨An,cn,hsv⟩ := hxn.form;subst hsv;have HX := Hd hx
   have HXN := Hd hxn
   have HCL := Hd hcell
   have HBF := Hd hbf
   obtain ⟨fn,hfn⟩ : ∃ k : Nat,x.frm = (k : Int) := ⟨x.frm.toNat,by have := hbf.lo; omega⟩;obtain ⟨tn,htn⟩ : ∃ k : Nat,x.upto = (k : Int) := ⟨x.upto.toNat,by have := hbf.lo; have := hbf.lt; omega⟩;have hft : fn < tn := by have := hbf.lt; omega
   have htl : tn ≤ n := by have := hbf.le; have := HI.out.1; omega
   have HFN := Hd hfn
   have HTN := Hd htn
   have hn64' : n ≤ 64 := by have := HI.out.1; omega
   clear hab hnab hx hxw hxn hcell hbf hok hn1 hn64 hfn htn;go_upto_region 16 with (first
    | (refine zae rfl 44 (.tmp 64) rfl (ad.add (bn * 3)) (by rfl) (bkC (x,.slice An x.next.length cn)) _ HCL.out underlying44 rfl zsx ?_)
    | (refine zag rfl 44 (.tmp 14) (.tmp 65) rfl _ (bkC (x,.slice An x.next.length cn)) (.agg (bkC (x,.slice An x.next.length cn)).toArray) (by rfl) (by rfl) rfl zsx (by rfl) (znp x rfl) ?_
       intro w5 G5 L5 Z5;have HXB := Hd G5
       have HL5 := Hd L5
       clear G5 L5 Z5)
    | fail)
   obtain ⟨bb,hbb⟩ : ∃ k,w4.heap.size = k := ⟨_,rfl⟩;rw [hbb] at HXB HL5 ⊢;have HLE := Hd (hbb ▸ HL5.out : Below w4.heap.size w4 w5)
   have HBB := Hd (show bm < bb by rw [← hbb]; exact HMS.out.lt)
   clear HL5 hbb;have HL5 := HB5.out.lt;have HL8 := HB8.out.lt;replace HP := Hd (HP.out.step HLE.out)
   replace HB5 := Hd (HB5.out.below HLE.out HL5)
   replace HB8 := Hd (HB8.out.below HLE.out HL8)
   replace HI := Hd (HI.out.step HLE.out)
   replace HXN := Hd (HXN.out.chg (G := fun k => F k ∨ k = bm) (Chg.of_below HLE.out) (fun k q => .inr q) (fun k q => .inl (q.elim (fun q => .inl (Nat.lt_of_not_le fun e => HNF.out k (by have := HS1.out; omega) q)) .inr)))
   replace HMS := Hd (HMS.out.below HLE.out)
   clear HL5 HL8 HLE HBKS;have cb0 : w5.cell? ⟨bb,0,none⟩ = some (.int .i64 (fn : Int)) := by rw [← HFN.out]; exact HXB.out.cell 0
   go_wp2_with fail
   obtain ⟨nn,hnn⟩ : ∃ k,tn - fn = k := ⟨_,rfl⟩;obtain ⟨ins,hins⟩ : ∃ v,(l.drop fn).take nn = v := ⟨_,rfl⟩;have HNN := Hd hnn
   have HINS := Hd hins
   have HMG := Hd (DG.refl HMS.out)
   have HBXB := Hd (show bm < bb ∧ b5 + 1 + 1 < bm ∧ bb < w5.heap.size by have := HXB.out.lt; have := HBB.out; have := HBM1.out; have := HS1.out; omega)
   have HINL := Hd (fun k (y : ID) (hy : ins[k]? = some y) => (by
    rw [← HINS.out] at hy;have h1 := ztt.1 hy;rw [List.getElem?_take_of_lt (by have := h1.1; simp at this; omega),zt4] at hy;exact ⟨ztv hy,HOK.out _ _ hy,hy⟩ : y ∈ l ∧ zdI l.length (fn + k) y = true ∧ l[fn + k]? = some y))
   clear hnn hins cb0 HMS HBB;have HXT := Hd (show za2 l (bn : Int) = x by unfold za2; rw [ztx,zts,HX.out]; rfl)
   go_loopw [15] (fun iv wq => ∃ j : Nat,fn ≤ j ∧ j ≤ tn ∧ iv = .int .i64 j ∧ ∃ F' G',DG base g bm (fun k => F k ∨ k = bm) w5 F' G' ((SM.mk p regs [] 0).go (ins.take (j - fn))) zaZ wq) (fun iv _ => tn - (intOf iv).toNat)
   case atStart => exact ⟨fn,by omega,by omega,rfl,_,_,by rw [Nat.sub_self]; exact HMG.out⟩
   case round =>
    obtain ⟨j,hj0,hj1,rfl,F',G',hmr⟩ := hrel
    rename World => wq
    clear HMG;obtain ⟨mk,hmk⟩ : ∃ m,(SM.mk p regs [] 0).go (ins.take (j - fn)) = m := ⟨_,rfl⟩;rw [hmk] at hmr;have HMK := Hd hmk
    have HNG := Hd (fun c (hc : bm < c) (q : F c ∨ c = bm) => q.elim (fun q => HNF.out c (by have := HBXB.out; omega) q) (fun e => by omega) : ∀ c,bm < c → ¬ (F c ∨ c = bm))
    have HN5 := Hd (fun c (hc : b5 ≤ c) (hc2 : c < bm) (q : F c ∨ c = bm) => q.elim (fun q => HNF.out c hc q) (fun e => by omega) : ∀ c,b5 ≤ c → c < bm → ¬ (F c ∨ c = bm))
    have HM := Hd hmr
    replace HB8 := Hd (HM.out.blk HB8.out (HN5.out _ (by omega) (by have := HBXB.out; omega))).1
    have HB5q := Hd (HM.out.blk HB5.out (HN5.out _ (by omega) (by have := HBXB.out; omega)))
    have HXBq := Hd (HM.out.blk HXB.out (HNG.out _ (by have := HBXB.out; omega)))
    have HIq := Hd (HI.out.chg (G := fun k => F k ∨ b5 ≤ k) hmr.chg (fun c q => .inl (q.imp id (fun e => by have := HBXB.out; omega))) (fun c q => .inl q))
    have HXNq := Hd (HXN.out.chg (G := G') hmr.chg (fun c q => .inl q) (fun c q => hmr.new c q))
    have cer := HM.out.at_.cerr;have cb1 : wq.cell? ⟨bb,1,none⟩ = some (.int .i64 (tn : Int)) := by rw [← HTN.out]; exact HXBq.out.1.cell 1
    obtain ⟨er,her⟩ : ∃ e,mk.err = e := ⟨_,rfl⟩;rw [her] at cer;have HERC := Hd her
    have HGO := Hd (fun (hq : tn ≤ j ∨ er ≠ 0) => (by
     have h0 : goV p l (bn : Int) regs = (SM.mk p regs [] 0).go ins := by
      unfold goV zef;rw [HXT.out,HFN.out,HTN.out,show ((tn : Int) - (fn : Int)).toNat = nn by have := HNN.out; omega,ztx,HINS.out]
     rw [h0]
     rcases hq with hq | hq
     ·rw [← HMK.out,ztN (by rw [← HINS.out,ztW]; have := HNN.out; omega)]
     ·rw [← List.take_append_drop (j - fn) ins,zpK,HMK.out,zrS (by rw [HERC.out]; exact hq)] : goV p l (bn : Int) regs = mk))
    have HV0 := Hd (zlF (p := p) (c := c) (l := l) (block := (bn : Int)) (regs := regs) HER.out HA.out)
    clear hmr hmk her
    by_cases hlt : j < tn
    ·have hl1 : decide ((j : Int) < (tn : Int)) = true := by simp; omega
     cases hz : (er == 0)
     ·have HV := Hd (show zdx p c l (bn : Int) regs = ⟨mk.p,zan,[],zaZ,er⟩ by rw [HV0.out,HGO.out (.inr (by simpa using hz)),if_pos (by rw [HERC.out]; simpa using hz),HERC.out])
      have hz2 : (er != 0) = true := by simpa using hz
      go_upto_region 23 with fail
      clear cer;refine zac (fun w' => w'.cell? ⟨bm,17,none⟩ = some (.int .i64 er)) (fun _ => True) [] (by kernel_rfl) ?_;replace HM := Hd (HM.out.step ((Below.refl _ _).drew))
      replace HB8 := Hd (show Blk wq.drew (b5 + 1 + 1) 65 zaq.toArray from HB8.out)
      have cer : wq.drew.cell? ⟨bm,17,none⟩ = some (.int .i64 er) := HERC.out ▸ HM.out.at_.cerr;generalize wq.drew = Wz at HM HB8 cer ⊢;have HT := Hd cer
      refine zcH 0 (some 109) _ _ (#[]) (.agg zaq.toArray) rfl (by kernel_rfl) (by rfl) (fun _ _ _ h => h) (by simp only [ztD,ztz,ztA] <;> rfl) zeF (bT HT) ?_;simp only [pt,pn,sL];refine em 1 (.pointer (some ⟨bm,0,none⟩)) (bT HT) ?_;refine ez 2 ⟨bm,0,none⟩ (bT HT) ?_;refine ef 3 ⟨bm,0,none⟩ ⟨bm,17,none⟩ (bT HT) ?_;refine el false 4 ⟨bm,17,none⟩ (.int .i64 er) underlying35 (fun w hS => (hS.1)) (bT HT) ?_;refine zaN 5 (by kernel_rfl) (zar.store_at 5 65 _ _ ⟨b5 + 1 + 1,0,none⟩ (.agg zaq.toArray) _ rfl (by rfl) (by rfl) (by rfl) (zaX Wz (b5 + 1 + 1) 0 65 65 zaq zaq _ HB8.out rfl zeE (by rw [zbC]; decide) zbQ) (.both ((World.cell?_of_block (a := ⟨bm,17,none⟩) ((zaD Wz (b5 + 1 + 1) (zaM zaq 0 zaq).toArray).block bm HM.out.at_.lt (fun e => by injection e with e; have := HBXB.out; omega))).trans HT.out) trivial) ?_);replace HT := Hd ((World.cell?_of_block (a := ⟨bm,17,none⟩) ((zaD Wz (b5 + 1 + 1) (zaM zaq 0 zaq).toArray).block bm HM.out.at_.lt (fun e => by injection e with e; have := HBXB.out; omega))).trans HT.out)
      simp only [pt,pn,sL];refine eS 6 (.int .i64 er) (bT HT) ?_;refine zab (by kernel_rfl) ?_ _;have hBq := setRow_heap Wz (b5 + 1 + 1) _ (zaM zaq 0 zaq).toArray 65 (0,0) HB8.out;have hgq := zaD Wz (b5 + 1 + 1) (zaM zaq 0 zaq).toArray;have HPQ := Hd ((HM.out.pgo HP.out (by have := HBXB.out; have := HB5e.out; omega)).own (b := b5 + 1 + 1) (fun q => (HM.out.new _ (HM.out.at_.sub _ q)).elim (fun q => q.elim (HNF.out _ (by omega)) (fun e => by have := HBXB.out; omega)) (fun e => by have := HBXB.out; omega)) (by have := HB5e.out; omega) (Chg.of_grown hgq (fun k e => .inl (by injection e with e; exact e.symm))))
      have hrl := zbR hBq rfl rfl;go_wp2;refine bodyPost_ret (v := .tuple #[.agg zaq.toArray,.int .i64 er]) ?_ rfl ⟨.slice none 0 0,_,by rw [HV.out]; rfl,by rw [HV.out]; exact HPQ.out,by rw [HV.out]; exact zbt.nil,rfl⟩;simp [results,results19,Act.put,asAddr,Result.andThen,hrl]
     ·have he0 : er = 0 := by simpa using hz
      subst he0;obtain ⟨ad3,xi,hA3,hab3,hnf3,hxi,hxiw,hc3⟩ := HIq.out.at_ (k := j) (by omega);subst hA3;have HCX := Hd hc3
      have HXI := Hd (show ins[j - fn]? = some xi by
       rw [← HINS.out,List.getElem?_take_of_lt (by have := HNN.out; omega),zt4,show fn + (j - fn) = j by omega];exact hxi)
      have HMAY := Hd (show ze8 xi = true by have := HOK.out j xi hxi; unfold zdI at this; simp only [ztr] at this; exact this.1)
      have HXW := Hd hxiw
      have HGT := Hd (zmN (m := SM.mk p regs [] 0) HXI.out)
      have HGE := Hd (show mk.evs.length < 64 by
       have h1 := zmO (SM.mk p regs [] 0) (ins.take (j - fn));rw [HMK.out] at h1;have h2 : (ins.take (j - fn)).length ≤ j - fn := by rw [ztW]; omega
       have h3 : (SM.mk p regs [] 0).evs.length = 0 := rfl;omega)
      clear hab3 hnf3 hxi hxiw hc3;have HST := Hd (zng HM.out.at_ xi HXW.out HMAY.out HGE.out HERC.out)
      have c51 : wq.cell? ⟨b5,1,none⟩ = some (.slice (some ad3) n cap) := HB5q.out.1.cell 1;have hjn : j < n := by omega
      have hjz : (j : Int) < (n : Int) := by omega
      go_wp2_with (first
       | (refine zae rfl 47 (.tmp 85) rfl (ad3.add (j * 9)) (by rfl) xi.cells _ HCX.out underlying47 rfl ziZ ?_)
       | fail)
      refine HST.out.mono ?_;rintro e w7 ⟨rfl,F7,G7,hm7⟩;go_wp2;go_roundw
      case measure => simp [intOf]; omega
      case rel => exact ⟨j + 1,by omega,by omega,by go_num,_,_,by rw [show j + 1 - fn = j - fn + 1 by omega,HGT.out,HMK.out]; exact HM.out.trans hm7⟩
    ·have hl1 : decide ((j : Int) < (tn : Int)) = false := by simp; omega
     have hjt : tn ≤ j := by omega
     cases hz : (er == 0)
     ·have HV := Hd (show zdx p c l (bn : Int) regs = ⟨mk.p,zan,[],zaZ,er⟩ by rw [HV0.out,HGO.out (.inl hjt),if_pos (by rw [HERC.out]; simpa using hz),HERC.out])
      have hz2 : (er != 0) = true := by simpa using hz
      go_upto_region 23 with fail
      clear cer;refine zac (fun w' => w'.cell? ⟨bm,17,none⟩ = some (.int .i64 er)) (fun _ => True) [] (by kernel_rfl) ?_;replace HM := Hd (HM.out.step ((Below.refl _ _).drew))
      replace HB8 := Hd (show Blk wq.drew (b5 + 1 + 1) 65 zaq.toArray from HB8.out)
      have cer : wq.drew.cell? ⟨bm,17,none⟩ = some (.int .i64 er) := HERC.out ▸ HM.out.at_.cerr;generalize wq.drew = Wz at HM HB8 cer ⊢;have HT := Hd cer
      refine zcH 0 (some 109) _ _ (#[]) (.agg zaq.toArray) rfl (by kernel_rfl) (by rfl) (fun _ _ _ h => h) (by simp only [ztD,ztz,ztA] <;> rfl) zeF (bT HT) ?_;simp only [pt,pn,sL];refine em 1 (.pointer (some ⟨bm,0,none⟩)) (bT HT) ?_;refine ez 2 ⟨bm,0,none⟩ (bT HT) ?_;refine ef 3 ⟨bm,0,none⟩ ⟨bm,17,none⟩ (bT HT) ?_;refine el false 4 ⟨bm,17,none⟩ (.int .i64 er) underlying35 (fun w hS => (hS.1)) (bT HT) ?_;refine zaN 5 (by kernel_rfl) (zar.store_at 5 65 _ _ ⟨b5 + 1 + 1,0,none⟩ (.agg zaq.toArray) _ rfl (by rfl) (by rfl) (by rfl) (zaX Wz (b5 + 1 + 1) 0 65 65 zaq zaq _ HB8.out rfl zeE (by rw [zbC]; decide) zbQ) (.both ((World.cell?_of_block (a := ⟨bm,17,none⟩) ((zaD Wz (b5 + 1 + 1) (zaM zaq 0 zaq).toArray).block bm HM.out.at_.lt (fun e => by injection e with e; have := HBXB.out; omega))).trans HT.out) trivial) ?_);replace HT := Hd ((World.cell?_of_block (a := ⟨bm,17,none⟩) ((zaD Wz (b5 + 1 + 1) (zaM zaq 0 zaq).toArray).block bm HM.out.at_.lt (fun e => by injection e with e; have := HBXB.out; omega))).trans HT.out)
      simp only [pt,pn,sL];refine eS 6 (.int .i64 er) (bT HT) ?_;refine zab (by kernel_rfl) ?_ _;have hBq := setRow_heap Wz (b5 + 1 + 1) _ (zaM zaq 0 zaq).toArray 65 (0,0) HB8.out;have hgq := zaD Wz (b5 + 1 + 1) (zaM zaq 0 zaq).toArray;have HPQ := Hd ((HM.out.pgo HP.out (by have := HBXB.out; have := HB5e.out; omega)).own (b := b5 + 1 + 1) (fun q => (HM.out.new _ (HM.out.at_.sub _ q)).elim (fun q => q.elim (HNF.out _ (by omega)) (fun e => by have := HBXB.out; omega)) (fun e => by have := HBXB.out; omega)) (by have := HB5e.out; omega) (Chg.of_grown hgq (fun k e => .inl (by injection e with e; exact e.symm))))
      have hrl := zbR hBq rfl rfl;go_wp2;refine bodyPost_ret (v := .tuple #[.agg zaq.toArray,.int .i64 er]) ?_ rfl ⟨.slice none 0 0,_,by rw [HV.out]; rfl,by rw [HV.out]; exact HPQ.out,by rw [HV.out]; exact zbt.nil,rfl⟩;simp [results,results19,Act.put,asAddr,Result.andThen,hrl]
     ·have he0 : er = 0 := by simpa using hz
      subst he0;have HNZm := Hd (show NZ mk.p by rw [← HGO.out (.inl hjt)]; exact HNZ.out HER.out HA.out)
      rw [HGO.out (.inl hjt),HXT.out] at HV0;have hbf := HBF.out;obtain ⟨ad9,y9,hA9,hab9,hnf9,hy9,hyw9,hc9⟩ := HIq.out.at_ (k := i0) (by have := hbf.last; have := HTN.out; omega);subst hA9;have hyy : y9 = y0 := by have := hbf.at_; rw [hy9] at this; exact Option.some.inj this
      subst hyy;have HI0 := Hd (show i0 < n ∧ n ≤ 64 from ⟨by have := hbf.last; have := HTN.out; omega,by omega⟩)
      have HOY := Hd (show ze8 y9 = true by have := HOK.out i0 y9 hy9; unfold zdI at this; simp only [ztr] at this; exact this.1)
      have HYW := Hd hyw9
      have HCY := Hd hc9
      have HTO := Hd (show x.upto = (i0 : Int) + 1 from hbf.last)
      have H12 := Hd (ztp hbf.one hbf.two)
      have HYL := Hd (show l.getD (x.upto - 1).toNat zc0 = y9 by rw [hbf.last,show ((i0 : Int) + 1 - 1).toNat = i0 by omega,zts,hy9]; rfl)
      have HAB := Hd (ztp hab9 (fun q => (HM.out.new _ q).elim (fun q => hnf9 (q.imp id (fun e => by have := HBXB.out; omega))) (fun e => hnf9 (.inr (by have := HBXB.out; omega))) : ¬ G' ad9.block))
      clear hbf hab9 hnf9 hy9 hyw9 hc9;rw [if_neg (by rw [HERC.out]; simp),HYL.out] at HV0;obtain ⟨q,hq⟩ : ∃ q,mk.dends y9 x.next = q := ⟨_,rfl⟩
      rw [hq] at HV0;go_upto_region 21 with fail
      clear cer cb1;replace HM := Hd (HM.out.step ((Below.refl _ _).drew))
      have hen := zlH HM.out.at_ y9 HYW.out HOY.out (HXNq.out.chg (G := G') (H := fun _ => False) (w' := wq.drew) (Chg.of_below ((Below.refl _ _).drew)) (fun c q => q.elim) (fun c q => .inl q)) H12.out.1 H12.out.2 HNZm.out;rw [hq] at hen;have HEN := Hd hen
      have HTN := Hd (fun (Wx : World) (hc : Chg G' wq.drew Wx) => (⟨(World.cell?_of_block (a := ⟨b5,1,none⟩) (hc.block b5 HB5q.out.1.lt HB5q.out.2)).trans (HB5q.out.1.cell 1),(World.cell?_of_block (a := ⟨bb,1,none⟩) (hc.block bb HXBq.out.1.lt HXBq.out.2)).trans (by rw [← HTO.out]; exact HXBq.out.1.cell 1),(World.cell?_of_block (a := ⟨bb,2,none⟩) (hc.block bb HXBq.out.1.lt HXBq.out.2)).trans (HXBq.out.1.cell 2),fun j u hu => (World.cell?_of_block (by rw [zaz,zaz]; exact hc.block _ HAB.out.1 HAB.out.2)).trans (HCY.out j u hu)⟩ : Wx.cell? ⟨b5,1,none⟩ = some (.slice (some ad9) n cap) ∧ Wx.cell? ⟨bb,1,none⟩ = some (.int .i64 ((i0 : Int) + 1)) ∧ Wx.cell? ⟨bb,2,none⟩ = some (.slice An x.next.length cn) ∧ ∀ j u,y9.cells[j]? = some u → Wx.cell? ((ad9.add (i0 * 9)).add j) = some u))
      replace HB8 := Hd (show Blk wq.drew (b5 + 1 + 1) 65 zaq.toArray ∧ ¬ G' (b5 + 1 + 1) from ⟨HB8.out,fun q => (HM.out.new _ q).elim (HN5.out _ (by omega) (by have := HBXB.out; omega)) (fun e => by have := HBXB.out; omega)⟩)
      clear hen hq HXNq HIq HOK HBF;refine zac (fun Wx => Wx.cell? ⟨b5,1,none⟩ = some (.slice (some ad9) n cap) ∧ Wx.cell? ⟨bb,1,none⟩ = some (.int .i64 ((i0 : Int) + 1)) ∧ Wx.cell? ⟨bb,2,none⟩ = some (.slice An x.next.length cn) ∧ ∀ j u,y9.cells[j]? = some u → Wx.cell? ((ad9.add (i0 * 9)).add j) = some u) (fun _ => True) [] (by kernel_rfl) ?_;have HT := Hd (HTN.out _ (Chg.refl _ _))
      generalize wq.drew = w8 at HM HEN HTN HT HB8 ⊢;refine em 0 (.pointer (some ⟨bm,0,none⟩)) (bT HT) ?_;refine ef 1 ⟨b5,0,none⟩ ⟨b5,1,none⟩ (bT HT) ?_;refine el false 2 ⟨b5,1,none⟩ (.slice (some ad9) n cap) underlying22 (fun w hS => (hS.1.1)) (bT HT) ?_;refine ef 3 ⟨bb,0,none⟩ ⟨bb,1,none⟩ (bT HT) ?_;refine el false 4 ⟨bb,1,none⟩ (.int .i64 ((i0 : Int) + 1)) underlying3 (fun w hS => (hS.1.2.1)) (bT HT) ?_;refine eb 5 (.int .i64 (i0 : Int)) rfl (fun o e w _ => by unfold execOp; simp only [e]; go_simp; try rw [zea (by have := HI0.out; omega)]; try (congr 2; omega)) (bT HT) ?_;refine ej 6 (.slice (some ad9) n cap) (.int .i64 (i0 : Int)) (.pointer (some (ad9.add (i0 * 9)))) (zlD HI0.out) (bT HT) ?_;refine eL false 7 (ad9.add (i0 * 9)) y9.cells (fun w hS => hS.1.2.2.2) underlying47 ziZ (bT HT) ?_;refine ef 8 ⟨bb,0,none⟩ ⟨bb,2,none⟩ (bT HT) ?_;refine el false 9 ⟨bb,2,none⟩ (.slice An x.next.length cn) underlying28 (fun w hS => (hS.1.2.2.1)) (bT HT) ?_;refine eo 10 fun o K h2 h3 hKK => ?_
      unfold Oper.wp execOp;simp only [h3];go_simp;refine HEN.out.mono ?_;rintro e w9 ⟨rfl,F9,G9,hm9⟩;replace HT := Hd (HTN.out w9 hm9.chg)
      dsimp only;refine hKK _ _ (bT HT) ?_;clear hKK h2 h3 K o;try simp only [pt,pn,sL]
      refine zab (by kernel_rfl) ?_ _;replace HM := Hd (HM.out.trans hm9)
      replace HB8 := Hd (hm9.blk HB8.out.1 HB8.out.2).1
      clear HT HTN HEN hm9;obtain ⟨m2,ex2⟩ := q;dsimp only at HM HV0;have cer := HM.out.at_.cerr;obtain ⟨er,her⟩ : ∃ e,m2.err = e := ⟨_,rfl⟩;rw [her] at cer;replace HERC := Hd her
      clear her hz
      cases hz : (er != 0)
      ·have he0 : er = 0 := by simpa using hz
       subst he0;have HV := Hd (show zdx p c l (bn : Int) regs = ⟨m2.p,m2.regs,m2.evs,ex2,0⟩ by rw [HV0.out,if_neg (by rw [HERC.out]; simp)])
       obtain ⟨es,hBm,hev,ho⟩ := HM.out.at_.out;rw [zpU] at hBm;have HSL := Hd (zb7 HM.out.at_.len es ex2)
       have HSO := Hd (zdf (regs := m2.regs) ho ex2)
       have HLD := Hd (show ∀ j u,(zcF m2.regs es ex2)[j]? = some u → w9.cell? ((⟨bm,1,none⟩ : Addr).add j) = some u from fun j u hu => zjt hBm j u (by rw [ztJ (ztt.1 hu).1]; exact hu))
       have HEV := Hd hev
       have HO1 := Hd ho
       clear hBm hev ho;go_wp2_with (first
        | (refine zae rfl 65 (.tmp 116) rfl ⟨bm,1,none⟩ (by rfl) (zcF m2.regs es ex2) _ HLD.out underlying65 rfl (by rw [HSL.out]; exact zeE) ?_)
        | (refine zaa rfl 65 (.tmp 8) (.tmp 117) rfl (b5 + 1 + 1) 0 65 zaq (zcF m2.regs es ex2) (.agg (zcF m2.regs es ex2).toArray) HB8.out (by rfl) (by rfl) rfl (by rw [HSL.out]; exact zeE) (by rw [HSL.out,zbC]; decide) HSO.out ?_
           intro wr8 hBq hgq hsq;have HBQ := Hd hBq
           have HGQ := Hd hgq
           clear hBq hgq hsq)
        | fail)
       have hnb8 := Hd (fun q => (HM.out.new _ q).elim (HN5.out _ (by omega) (by have := HBXB.out; omega)) (fun e => by have := HBXB.out; omega) : ¬ G9 (b5 + 1 + 1))
       have hcq := Chg.of_grown (F := fun k => k = b5 + 1 + 1) HGQ.out (fun k e => .inl (by injection e with e; exact e.symm));have HPQ := Hd ((HM.out.pgo HP.out (by have := HBXB.out; have := HB5e.out; omega)).own (b := b5 + 1 + 1) (fun q => hnb8.out (HM.out.at_.sub _ q)) (by have := HB5e.out; omega) hcq)
       have hrl := zbR HBQ.out rfl HSL.out;have HEQ := Hd (HEV.out.chg (G := fun k => F9 k ∨ k < w.heap.size) hcq (fun k e => .inl (.inr (by subst e; have := HBXB.out; omega))) (fun k q => q.elim (fun q => .inl (.inl q)) (fun e => .inl (.inr (by have := HBXB.out; have := HB5e.out; omega)))))
       refine bodyPost_ret (v := .tuple #[.agg (zcF m2.regs es ex2).toArray,.int .i64 0]) ?_ rfl ⟨es,F9,by rw [HV.out],by rw [HV.out]; exact HPQ.out,by rw [HV.out]; exact HEQ.out,HO1.out⟩;simp [results,results19,Act.put,asAddr,Result.andThen,hrl]
      ·have HV := Hd (show zdx p c l (bn : Int) regs = ⟨m2.p,zan,[],zaZ,er⟩ by rw [HV0.out,if_pos (by rw [HERC.out]; simpa using hz),HERC.out])
       go_upto_region 23 with fail
       clear cer;refine zac (fun w' => w'.cell? ⟨bm,17,none⟩ = some (.int .i64 er)) (fun _ => True) [] (by kernel_rfl) ?_;replace HM := Hd (HM.out.step ((Below.refl _ _).drew))
       replace HB8 := Hd (show Blk w9.drew (b5 + 1 + 1) 65 zaq.toArray from HB8.out)
       have cer : w9.drew.cell? ⟨bm,17,none⟩ = some (.int .i64 er) := HERC.out ▸ HM.out.at_.cerr;generalize w9.drew = Wz at HM HB8 cer ⊢;have HT := Hd cer
       refine zcH 0 (some 109) _ _ (#[]) (.agg zaq.toArray) rfl (by kernel_rfl) (by rfl) (fun _ _ _ h => h) (by simp only [ztD,ztz,ztA] <;> rfl) zeF (bT HT) ?_;simp only [pt,pn,sL];refine em 1 (.pointer (some ⟨bm,0,none⟩)) (bT HT) ?_;refine ez 2 ⟨bm,0,none⟩ (bT HT) ?_;refine ef 3 ⟨bm,0,none⟩ ⟨bm,17,none⟩ (bT HT) ?_;refine el false 4 ⟨bm,17,none⟩ (.int .i64 er) underlying35 (fun w hS => (hS.1)) (bT HT) ?_;refine zaN 5 (by kernel_rfl) (zar.store_at 5 65 _ _ ⟨b5 + 1 + 1,0,none⟩ (.agg zaq.toArray) _ rfl (by rfl) (by rfl) (by rfl) (zaX Wz (b5 + 1 + 1) 0 65 65 zaq zaq _ HB8.out rfl zeE (by rw [zbC]; decide) zbQ) (.both ((World.cell?_of_block (a := ⟨bm,17,none⟩) ((zaD Wz (b5 + 1 + 1) (zaM zaq 0 zaq).toArray).block bm HM.out.at_.lt (fun e => by injection e with e; have := HBXB.out; omega))).trans HT.out) trivial) ?_);replace HT := Hd ((World.cell?_of_block (a := ⟨bm,17,none⟩) ((zaD Wz (b5 + 1 + 1) (zaM zaq 0 zaq).toArray).block bm HM.out.at_.lt (fun e => by injection e with e; have := HBXB.out; omega))).trans HT.out)
       simp only [pt,pn,sL];refine eS 6 (.int .i64 er) (bT HT) ?_;refine zab (by kernel_rfl) ?_ _;have hBq := setRow_heap Wz (b5 + 1 + 1) _ (zaM zaq 0 zaq).toArray 65 (0,0) HB8.out;have hgq := zaD Wz (b5 + 1 + 1) (zaM zaq 0 zaq).toArray;have HPQ := Hd ((HM.out.pgo HP.out (by have := HBXB.out; have := HB5e.out; omega)).own (b := b5 + 1 + 1) (fun q => (HM.out.new _ (HM.out.at_.sub _ q)).elim (fun q => q.elim (HNF.out _ (by omega)) (fun e => by have := HBXB.out; omega)) (fun e => by have := HBXB.out; omega)) (by have := HB5e.out; omega) (Chg.of_grown hgq (fun k e => .inl (by injection e with e; exact e.symm))))
       have hrl := zbR hBq rfl rfl;go_wp2;refine bodyPost_ret (v := .tuple #[.agg zaq.toArray,.int .i64 er]) ?_ rfl ⟨.slice none 0 0,_,by rw [HV.out]; rfl,by rw [HV.out]; exact HPQ.out,by rw [HV.out]; exact zbt.nil,rfl⟩;simp [results,results19,Act.put,asAddr,Result.andThen,hrl]
end
end
section
/-! ### the entry behind the start, in one pool -/
def P2 : PS := ⟨(List.range 11).map (fun (i : Nat) => zdJ (i : Int) 64) ++ [zaf 0,zaf 2097152,zaf 3145792],List.replicate 14 1⟩
def R2 : List Int := [11,12,11,11,11,11,11,11,11,11,13]
theorem zjq : zcg zbG P0 = (P2,R2,0) := by kernel_rfl
theorem zeQ : WfP P2 ∧ (∀ t ∈ P2.T,t.wf) ∧ ∀ r ∈ R2,zal P2.T r = true := by
 obtain ⟨_,h2,h3,h4⟩ := zgV zk1 zdi.1 zdi.2.1 11 (ztn _);have e : zbf zbG P0 11 = (P2,R2,0) := by kernel_rfl
 rw [e] at h2 h3 h4;exact ⟨h2,h3,h4 rfl⟩
theorem ziC : ∀ t ∈ P2.T,t.kind = 0 ∨ t.kind = 1 := by decide
theorem zpo : ∀ t ∈ P2.T,t.kind = 1 → 0 ≤ t.n ∧ t.n < 11 := by decide
theorem zsK : Rm P2 3900 := ⟨zeQ.1,zeQ.2.1,zsf (fun t ht => by have := ziC t ht; omega),zsg (fun t ht => by have := ziC t ht; omega),by decide⟩
theorem zrj : ∀ r ∈ R2,dpP P2 r ≤ 1 := by decide
theorem zrk : MI (SM.mk P2 R2 [] 0) 3900 1 := ⟨zsK,rfl,fun r hr => ⟨zeQ.2.2 r hr,zrj r hr⟩,rfl,fun t ht hk => by have := zpo t ht hk; show t.n < 38 + 3 * ((0 : Nat) : Int); omega⟩
theorem zpp {vs : List Int}(hl : 11 ≤ vs.length) : AV vs P2 ∧ RV vs P2 R2 VE := by
 refine ⟨zj1 zeQ.1 fun t ht => (ziC t ht).imp id (fun k => ⟨k,by have := zpo t ht k; omega⟩),rfl,rfl,fun i hi => ?_⟩;have key : ∀ (n : Int) (j : Nat) (v : Int),n = (j : Int) → P2.T[j]? = some (zaf v) → evP P2.T vs n = some v := fun n j v hn h => by
  obtain ⟨h1,h2⟩ := zpQ hn h;rw [zds zeQ.1 h2,h1]
  rfl
 match i,hi with
 | 0,_ => exact key _ 11 0 rfl rfl
 | 1,_ => exact key _ 12 2097152 rfl rfl
 | 2,_ => exact key _ 11 0 rfl rfl
 | 3,_ => exact key _ 11 0 rfl rfl
 | 4,_ => exact key _ 11 0 rfl rfl
 | 5,_ => exact key _ 11 0 rfl rfl
 | 6,_ => exact key _ 11 0 rfl rfl
 | 7,_ => exact key _ 11 0 rfl rfl
 | 8,_ => exact key _ 11 0 rfl rfl
 | 9,_ => exact key _ 11 0 rfl rfl
 | 10,_ => exact key _ 13 3145792 rfl rfl
/-! ### the document's exit -/
theorem zlI {m : SM}{k : Nat}{d : Int}(h : MI m (k + 30) d)(hd : 1 ≤ d ∧ d < 255){x : ID}(M : znH x)(nx : List Int) :
  (m.dends x nx).1 = ⟨(m.dends x nx).1.p,m.regs,m.evs,0⟩ ∧ (m.dends x nx).2 = (m.ends x nx).2 ∧ ∀ vs n v,evP (m.ends x nx).1.p.T vs n = some v → evP (m.dends x nx).1.p.T vs n = some v := by
 have he : m = ⟨m.p,m.regs,m.evs,0⟩ := by rw [← h.err]
 unfold SM.dends SM.ends
 by_cases h6 : x.kind = 6
 ·rw [if_pos h6,if_pos h6]
  exact ⟨he,rfl,fun _ _ _ q => q⟩
 rw [if_neg h6,if_neg h6]
 by_cases hk : x.kind = 3
 ·rw [if_pos hk]
  have hs := zdN (k := k + 20) (x := x) ⟨h.rm.less (by omega),h.len,h.reg,h.err,h.vi⟩ hd.1 M.src;have hr := h.at_ M.dst;obtain ⟨q,hq⟩ : ∃ q,m.second x = q := ⟨_,rfl⟩;rw [hq] at hs;dsimp only;rw [hq];obtain ⟨mq,nq⟩ := q;have e1 := hs.eq;dsimp only at e1;have hmq : MI mq (k + 20) d := by
   rw [e1];exact ⟨hs.rm,h.len,zeT h.reg hs.ext h.rm.wf hs.rm.wf (ztB _),rfl,hs.vi⟩
  have hmr : mq.regs = m.regs ∧ mq.evs = m.evs := by rw [e1]; exact ⟨rfl,rfl⟩
  have ha := zlT (cc := x.op) (a := m.reg x.dst) (b := nq) hmq hd (M.cond hk).1 ⟨hs.ext.has hr.1,by rw [hs.ext.dp h.rm.wf hs.rm.wf hr.1]; exact hr.2⟩ ⟨hs.has,hs.low⟩;have h1 := ha.1;rw [hmr.1,hmr.2] at h1
  by_cases hn : nx.getD 0 0 = nx.getD 1 0
  ·rw [if_pos hn,if_neg (fun q => q.2 hn)]
   exact ⟨h1,rfl,fun vs n v q => zdK h.rm.wf ha.2.rm.wf (hs.ext.trans ha.2.ext) q⟩
  ·rw [if_neg hn,if_pos ⟨hk,hn⟩]
   exact ⟨h1,rfl,fun _ _ _ q => q⟩
 ·rw [if_neg hk,if_neg (fun q => hk q.1)]
  exact ⟨he,rfl,fun _ _ _ q => q⟩
/-! ### the two runs -/
theorem zsL {p : PS}{c : Int}{l : List ID}{block : Int}{regs : List Int}{k : Nat}(h : MI (SM.mk p regs [] 0) (k + 1950) 1)(hc : (zdj c l).2 = 0)(ha : zgr p l block regs = true) : NZ (goV p l block regs).p := by
 obtain ⟨m,q,R⟩ := zfA h hc ha;rw [R.eqm];exact R.mi.rm.nz
structure zrl (vs : List Int)(x y : zqs) : Prop where
 err : y.err = x.err
 regs : y.regs = x.regs
 evs : y.evs = x.evs
 ex : y.ex = x.ex
 up : ∀ n v,evP x.p.T vs n = some v → evP y.p.T vs n = some v
 reg : x.err = 0 → ∀ i,i < 11 → ∃ v,evP x.p.T vs (x.regs.getD i 0) = some v
 ev : x.err = 0 → ∀ e ∈ x.evs,(e.kind ≠ 2 → ∃ v,evP x.p.T vs e.a = some v) ∧ (∃ v,evP x.p.T vs e.v = some v) ∧ ∀ a ∈ e.args,∃ v,evP x.p.T vs a = some v
 few : x.evs.length ≤ 64
 exv : x.err = 0 → x.ex.kind ≠ 1 → ∃ v,evP x.p.T vs x.ex.v = some v
theorem pair {vs : List Int}(hU : ∀ v ∈ vs,U64 v)(hlen : 38 + 3 * 64 < vs.length){p : PS}{regs rv : List Int}{k : Nat}(h : MI (SM.mk p regs [] 0) (k + 1950) 1)(hav : AV vs p)(hr : RV vs p regs rv)(c : Int)(l : List ID)(block : Int) : zrl vs (zgn p c l block regs) (zdx p c l block regs) := by
 by_cases hc : (zdj c l).2 = 0
 ·cases ha : zgr p l block regs
  ·rw [zja hc ha,zfr hc ha]
   exact ⟨rfl,rfl,rfl,rfl,fun _ _ q => q,fun h => absurd h (by show (2 : Int) ≠ 0; decide),fun h => absurd h (by show (2 : Int) ≠ 0; decide),by show 0 ≤ 64; omega,fun h => absurd h (by show (2 : Int) ≠ 0; decide)⟩
  ·have X := zqQ hU hlen h hc ha hav hr
   obtain ⟨m,q,R⟩ := zfA h hc ha;obtain ⟨e1,e2,e3⟩ := zlI (k := k) R.mi (by omega) (zhA hc (zi3 ha)) (za2 l block).next
   have hD : zdx p c l block regs = ⟨(m.dends (l.getD ((za2 l block).upto - 1).toNat zc0) (za2 l block).next).1.p,m.regs,m.evs,q.2,0⟩ := by
    rw [zlF hc ha,R.eqm,if_neg (by rw [R.mi.err]; simp),if_neg (by rw [e1]; simp),e2,R.eqq];rw [e1]
   rw [R.eqq] at e3;have hX := R.run;refine ⟨by rw [hD,hX],by rw [hD,hX]; exact R.rgs.symm,by rw [hD,hX]; exact R.evs.symm,by rw [hD,hX],fun n v hv => by rw [hD]; rw [hX] at hv; exact e3 vs n v hv,fun _ i hi => ⟨_,X.regs.reg i hi⟩,fun _ e he => ?_,?_,fun _ hk => ⟨_,X.v hk⟩⟩;rotate_left
   ·rw [hX]
    show q.1.evs.length ≤ 64
    rw [R.evs,← R.eqm];have h1 := zmO (SM.mk p regs [] 0) (zef l (za2 l block));have h2 := (zi2 hc (x := za2 l block)).2;have h3 : (SM.mk p regs [] 0).evs.length = 0 := rfl;unfold goV;omega
   obtain ⟨i,hi⟩ := List.getElem?_of_mem he;have hil := (ztt.1 hi).1;have A := X.evs.ev i e _ hi (ztq (by rw [← X.evs.len]; exact hil));refine ⟨fun hk => ⟨_,A.at_ hk⟩,⟨_,A.val⟩,fun a hm => ?_⟩;obtain ⟨j,hj⟩ := List.getElem?_of_mem hm;have hjl := (ztt.1 hj).1;have := A.arg j hjl;rw [zts,hj] at this;exact ⟨_,this⟩
 ·rw [zi9 hc,zjo hc]
  exact ⟨rfl,rfl,rfl,rfl,fun _ _ q => q,fun h => absurd h hc,fun h => absurd h hc,by show 0 ≤ 64; omega,fun h => absurd h hc⟩
theorem zkp {vs : List Int}(hU : ∀ v ∈ vs,U64 v)(hlen : 38 + 3 * 64 < vs.length)(c : Int)(l : List ID)(block : Int) : zrl vs (zgn P0 c l block R0) (zdx P0 c l block R0) := pair hU hlen (k := 1950) zsi (zj2 (vs := vs) (by omega)).1 (zj2 (vs := vs) (by omega)).2 c l block
theorem zkq {vs : List Int}(hU : ∀ v ∈ vs,U64 v)(hlen : 38 + 3 * 64 < vs.length)(c : Int)(l : List ID)(block : Int) : zrl vs (zgn P2 c l block R2) (zdx P2 c l block R2) := pair hU hlen (k := 1950) zrk (zpp (vs := vs) (by omega)).1 (zpp (vs := vs) (by omega)).2 c l block
end
end Go.Proofs.YtepagfkkjlbipaaGreat
