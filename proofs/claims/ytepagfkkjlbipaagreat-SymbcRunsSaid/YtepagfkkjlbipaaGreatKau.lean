/-
  Parts of the proof of SymbcRuns. Conditions: those written in each statement.
-/
import Derived.Test.YtepagfkkjlbipaaGreatKat
set_option linter.unusedVariables false
set_option linter.unusedSimpArgs false
set_option maxHeartbeats 64000000
set_option maxRecDepth 100000
namespace Go.Proofs.YtepagfkkjlbipaaGreat
open Go.RowKit
open Tryz
section
def mC (g : Nat)(regs : List Int)(es : Value)(ex : ExD)(er : Int) : List Value :=
 .pointer (some ⟨g,0,none⟩) :: (regs.map (Value.int .i64) ++ [es,.int .i8 ex.kind,.int .i64 ex.v,.int .i64 ex.tgt,.int .i64 ex.els,.int .i64 er])
section
variable {g : Nat}{regs : List Int}{es es' : Value}{ex ex' : ExD}{er er' : Int}
theorem zpT (hl : regs.length = 11){d : Nat}(hd : d < 11) : (mC g regs es ex er)[1 + d]? = some (.int .i64 (regs.getD d 0)) := by
 unfold mC;rw [Nat.add_comm,List.getElem?_cons_succ,ztJ (by simp; omega),ztw,zts,ztq (by omega)]
 rfl
theorem zhC (hl : regs.length = 11)(k : Nat) : (mC g regs es ex er)[12 + k]? = ([es,.int .i8 ex.kind,.int .i64 ex.v,.int .i64 ex.tgt,.int .i64 ex.els,.int .i64 er] : List Value)[k]? := by
 unfold mC;rw [show 12 + k = (11 + k) + 1 by omega,List.getElem?_cons_succ,zuh (by simp; omega)]
 congr 1
 simp;omega
theorem zco (hl : regs.length = 11) : (mC g regs es ex er).length = 18 := by unfold mC; simp; omega
theorem zim (hl : regs.length = 11){d : Nat}(hd : d < 11)(n : Int) : (mC g regs es ex er).set (1 + d) (.int .i64 n) = mC g (regs.set d n) es ex er := by
 unfold mC;rw [Nat.add_comm,List.set_cons_succ,List.set_append_left _ _ (by simp; omega),List.map_set]
theorem zj5 (hl : regs.length = 11) : (mC g regs es ex er).set 12 es' = mC g regs es' ex er := by
 unfold mC;rw [show 12 = 11 + 1 by omega,List.set_cons_succ,List.set_append_right _ _ (by simp; omega)];simp [hl]
theorem zin (hl : regs.length = 11) : (mC g regs es ex er).set 17 (.int .i64 er') = mC g regs es ex er' := by
 unfold mC;rw [show 17 = 16 + 1 by omega,List.set_cons_succ,List.set_append_right _ _ (by simp; omega)];simp [hl]
theorem znl (hl : regs.length = 11) : zaM (mC g regs es ex er) 13 [.int .i8 ex'.kind,.int .i64 ex'.v,.int .i64 ex'.tgt,.int .i64 ex'.els] = mC g regs es ex' er := by
 unfold zaM mC
 match regs,hl with
 | [a0,a1,a2,a3,a4,a5,a6,a7,a8,a9,a10],_ => rfl
end
def Uq (G : Nat → Prop)(b k : Nat) : Prop := G k ∨ k ≤ b
structure MA (base g b : Nat)(F G : Nat → Prop)(m : SM)(ex : ExD)(w : World) : Prop where
 pool : zam w base F g m.p
 box : ∃ es,∃ q : List (EvD × Value),Blk w b 114 (mC g m.regs es ex m.err).toArray ∧ w.ownsRow (b + 1) 72 6 es m.evs.length (q.flatMap evC) ∧ q.map (·.1) = m.evs ∧ (∀ p ∈ q,p.1.wf ∧ zbk w (Uq G b) p.2 p.1.args) ∧ ∀ k,es.ownBlock = some k → G k ∧ ¬ F k ∧ k ≠ b
 nb : ¬ F b ∧ G b
 sub : ∀ k,F k → G k
 low : ∀ k,G k → base ≤ k ∧ k < w.heap.size
 len : m.regs.length = 11
 rng : ∀ r ∈ m.regs,I64 r
 few : m.evs.length ≤ 64
structure MG (base g b : Nat)(G : Nat → Prop)(w : World)(F' G' : Nat → Prop)(m : SM)(ex : ExD)(w' : World) : Prop where
 at_ : MA base g b F' G' m ex w'
 chg : Chg G w w'
 new : ∀ k,G' k → G k ∨ w.heap.size ≤ k
section
variable {base g b : Nat}{F G F1 G1 F2 G2 : Nat → Prop}{m m1 m2 : SM}{ex ex1 ex2 : ExD}{w w1 w2 : World}{p1 : PS}
theorem MG.refl (h : MA base g b F G m ex w) : MG base g b G w F G m ex w := ⟨h,Chg.refl _ _,fun k q => .inl q⟩
theorem MG.trans (h : MG base g b G w F1 G1 m1 ex1 w1)(k : MG base g b G1 w1 F2 G2 m2 ex2 w2) : MG base g b G w F2 G2 m2 ex2 w2 :=
 ⟨k.at_,h.chg.trans k.chg h.new,fun b q => (k.new b q).elim (h.new b) (fun e => .inr (zto h.chg.size e))⟩
theorem MG.size (h : MG base g b G w F1 G1 m1 ex1 w1) : w.heap.size ≤ w1.heap.size := h.chg.size
theorem MG.blk (h : MG base g b G w F1 G1 m1 ex1 w1){c : Nat}{t : TypeId}{cs : Array Value}(hb : Blk w c t cs)(hg : ¬ G c) : Blk w1 c t cs ∧ ¬ G1 c :=
 ⟨h.chg.blk hb hg,fun q => (h.new c q).elim hg (fun e => by have := hb.lt; omega)⟩
theorem MA.below (h : MA base g b F G m ex w)(hb : Below w.heap.size w w1) : MA base g b F G m ex w1 := by
 obtain ⟨es,q,h1,h2,h3,h4,h5⟩ := h.box;exact ⟨h.pool.below hb,⟨es,q,h1.below hb h1.lt,(zbr.of_own h2).below hb |> fun _ => zaG h2 (fun k hk => hb.block k (zaQ h2 k hk).2),h3,fun p hp => ⟨(h4 p hp).1,(h4 p hp).2.chg (.of_below hb) (fun k hk => .inr hk) (fun k hk => .inl hk)⟩,h5⟩,h.nb,h.sub,fun k hk => ⟨(h.low k hk).1,zty (h.low k hk).2 hb.size⟩,h.len,h.rng,h.few⟩
theorem MG.step (h : MG base g b G w F1 G1 m1 ex1 w1)(hb : Below w1.heap.size w1 w2) : MG base g b G w F1 G1 m1 ex1 w2 := h.trans ⟨h.at_.below hb,Chg.of_below hb |>.mono (fun _ q => .inr q),fun k q => .inl q⟩
theorem MG.of_below (h : MA base g b F G m ex w)(hb : Below w.heap.size w w1) : MG base g b G w F G m ex w1 := (MG.refl h).step hb
theorem MA.pg (h : MA base g b F G m ex w)(k : PG base g F w F1 p1 w1) : MG base g b G w F1 (fun c => G c ∨ F1 c) { m with p := p1 } ex w1 := by
 obtain ⟨es,q,h1,h2,h3,h4,h5⟩ := h.box;have hb := k.blk h1 h.nb.1;have hc : Chg G w w1 := k.chg.mono (fun c q => .inl (h.sub c q));refine ⟨⟨k.pool,⟨es,q,hb.1,k.chg.own h2 (fun c hc => (h5 c hc).2.1),h3,fun p hp => ⟨(h4 p hp).1,(h4 p hp).2.chg hc (fun c q => .inl (.inl q)) (fun c q => q.elim (fun q => q.elim (fun q => .inl (.inl q)) (fun q => (k.new c q).elim (fun q => .inl (.inl (h.sub c q))) .inr)) (fun q => .inl (.inr q)))⟩,fun c hc => ⟨.inl (h5 c hc).1,fun q => (k.new c q).elim (h5 c hc).2.1 (fun e => by have := (zaQ h2 c hc).2; omega),(h5 c hc).2.2⟩⟩,⟨hb.2,.inl h.nb.2⟩,fun c q => .inr q,fun c q => ?_,h.len,h.rng,h.few⟩,hc,fun c q => q.elim .inl (fun q => (k.new c q).elim (fun q => .inl (h.sub c q)) .inr)⟩
 rcases q with q | q
 ·have := h.low c q
  have := k.chg.size;omega
 ·exact k.pool.fb c q
theorem zbs {c : Addr}(hc : c.block = b)(u : Value)(hG : G b) : Chg G w (w.setCell c u) :=
 ⟨rfl,rfl,rfl,by simp,fun k hk hn => Below.heap_setCell w c u k (fun e => hn (by rw [e,hc]; exact hG))⟩
theorem MA.cell (h : MA base g b F G m ex w){i : Nat}{u : Value}{m1 : SM}{ex1 : ExD}(hp : m1.p = m.p)(he : m1.evs = m.evs)(hl : m1.regs.length = 11)(hr : ∀ r ∈ m1.regs,I64 r)
  (hs : ∀ es,(mC g m.regs es ex m.err).set i u = mC g m1.regs es ex1 m1.err) : MG base g b G w F G m1 ex1 (w.setCell ⟨b,i,none⟩ u) := by
 obtain ⟨es,q,h1,h2,h3,h4,h5⟩ := h.box;have hc : Chg G w (w.setCell ⟨b,i,none⟩ u) := zbs rfl u h.nb.2;have hcF : Chg (fun k => k = b) w (w.setCell ⟨b,i,none⟩ u) := zbs (b := b) rfl u rfl;have hB := h1.set_ i u;rw [zuc,hs] at hB;refine ⟨⟨?_,⟨es,q,hB,?_,by rw [he]; exact h3,fun p hp => ⟨(h4 p hp).1,(h4 p hp).2.chg hc (fun c q => .inl (.inl q)) (fun c q => .inl q)⟩,h5⟩,h.nb,h.sub,fun k hk => ⟨(h.low k hk).1,zty (h.low k hk).2 hc.size⟩,hl,hr,by rw [he]; exact h.few⟩,hc,fun k q => .inl q⟩
 ·rw [hp]; exact h.pool.chg hcF (fun c q e => h.nb.1 (e ▸ q))
 ·rw [he]; exact hcF.own h2 (fun c hc e => (h5 c hc).2.2 e)
theorem MA.setErr (h : MA base g b F G m ex w)(er : Int) : MG base g b G w F G { m with err := er } ex (w.setCell ⟨b,17,none⟩ (.int .i64 er)) :=
 h.cell rfl rfl h.len h.rng (fun es => zin h.len)
theorem MA.setReg (h : MA base g b F G m ex w){d : Nat}(hd : d < 11){n : Int}(hn : I64 n) : MG base g b G w F G { m with regs := m.regs.set d n } ex (w.setCell ⟨b,1 + d,none⟩ (.int .i64 n)) :=
 h.cell rfl rfl (by rw [zub]; exact h.len) (fun r hr => (List.mem_or_eq_of_mem_set hr).elim (h.rng r) (fun e => e ▸ hn)) (fun es => zim h.len hd n)
theorem MA.cp (h : MA base g b F G m ex w) : w.cell? ⟨b,0,none⟩ = some (.pointer (some ⟨g,0,none⟩)) := by
 obtain ⟨es,q,h1,_⟩ := h.box;rw [h1.cell 0]
 rfl
theorem MA.creg (h : MA base g b F G m ex w){d : Nat}(hd : d < 11) : w.cell? ⟨b,1 + d,none⟩ = some (.int .i64 (m.regs.getD d 0)) := by
 obtain ⟨es,q,h1,_⟩ := h.box;rw [h1.cell (1 + d),ztK];exact zpT h.len hd
theorem MA.cerr (h : MA base g b F G m ex w) : w.cell? ⟨b,17,none⟩ = some (.int .i64 m.err) := by
 obtain ⟨es,q,h1,_⟩ := h.box;rw [h1.cell 17,ztK];exact zhC h.len 5
theorem MA.ces (h : MA base g b F G m ex w) : ∃ es,∃ q : List (EvD × Value),w.cell? ⟨b,12,none⟩ = some es ∧ Blk w b 114 (mC g m.regs es ex m.err).toArray ∧ w.ownsRow (b + 1) 72 6 es m.evs.length (q.flatMap evC) ∧ q.map (·.1) = m.evs ∧ (∀ p ∈ q,p.1.wf ∧ zbk w (Uq G b) p.2 p.1.args) ∧ ∀ k,es.ownBlock = some k → G k ∧ ¬ F k ∧ k ≠ b := by
 obtain ⟨es,q,h1,h2⟩ := h.box;refine ⟨es,q,?_,h1,h2⟩;rw [h1.cell 12,ztK];exact zhC h.len 0
theorem MA.lt (h : MA base g b F G m ex w) : b < w.heap.size := (h.low b h.nb.2).2
theorem zj6 {l : List Int}{d : Nat}(h : d < l.length) : l.getD d 0 ∈ l := by
 rw [zts,ztq h];exact ztU h
theorem MA.reg_i64 (h : MA base g b F G m ex w){d : Nat}(hd : d < 11) : I64 (m.regs.getD d 0) := h.rng _ (zj6 (by rw [h.len]; exact hd))
def zsn (base g b : Nat)(G : Nat → Prop)(ex : ExD)(w : World)(r : SM × Int)(e : Ending)(w' : World) : Prop := e = .returned (.int .i64 r.2) ∧ I64 r.2 ∧ ∃ F' G',MG base g b G w F' G' r.1 ex w'
end
end
section
section
variable {base g b : Nat}{F G F1 G1 : Nat → Prop}{m m1 : SM}{ex : ExD}{w w1 : World}
theorem MA.frozen (h : MA base g b F G m ex w)(i : Nat) : w.frozen? ⟨b,i,none⟩ = false := by
 obtain ⟨es,q,h1,_⟩ := h.box;exact h1.frozen i
theorem zde (h : MA base g b F G m ex w)(n er : Int)(hn : I64 n) : Calls prog 73 #[.pointer (some ⟨b,0,none⟩),.int .i64 n,.int .i64 er] w (zsn base g b G ex w (⟨m.p,m.regs,m.evs,if m.err = 0 then er else m.err⟩,n)) := by
 have c17 := h.cerr;have f17 := h.frozen 17;have HM := Hd h
 have HI := Hd hn
 clear h hn;obtain ⟨e2,he2⟩ : ∃ e2,(if m.err = 0 then er else m.err) = e2 := ⟨_,rfl⟩;rw [he2];have HE := Hd he2
 clear he2
 cases he : (m.err == 0)
 ·have hE : e2 = m.err := by rw [← HE.out,if_neg (by simpa using he)]
  have HE2 := Hd hE
  clear hE;go_enter func73,ntmps73;go_wp2;go_ret;exact ⟨rfl,HI.out,F,G,by rw [HE2.out]; exact MG.refl HM.out⟩
 ·have hE : e2 = er := by rw [← HE.out,if_pos (by simpa using he)]
  have HE2 := Hd hE
  clear hE;go_enter func73,ntmps73;go_wp2;go_ret;exact ⟨rfl,HI.out,F,G,by rw [HE2.out]; exact HM.out.setErr er⟩
theorem zdX (h : MA base g b F G m ex w)(n : Int)(hn : I64 n) : Calls prog 81 #[.pointer (some ⟨b,0,none⟩),.int .i64 n] w (zsn base g b G ex w (m.num n)) := by
 have c0 := h.cp;have HM := Hd h
 have hb0 := Hd (zto (h.low b h.nb.2).1 (ztu h.lt))
 clear h;go_enter func81,ntmps81;go_wp2_with fail
 refine (zb1 (IntKind.u64.wrap n) (wrap_u64 _) _ HM.out.pool hb0.out).mono ?_;rintro e w1 ⟨rfl,F1,hp1⟩;have HM1 := Hd (HM.out.pg hp1)
 clear hp1 c0;go_wp2_with fail
 refine (zde HM1.out.at_ _ _ (zaY HM.out.pool.wf _)).mono ?_;rintro e w2 ⟨rfl,_,F2,G2,hm2⟩;have HM2 := Hd (HM1.out.trans hm2)
 clear hm2;go_wp2;go_ret;exact ⟨rfl,zaY HM.out.pool.wf _,F2,G2,HM2.out⟩
end
end
section
section
variable {P : Program}{ops : Array Oper}{Q : Exit → Act → World → Prop}{md : Region.Mode}{T S : World → Prop}{late : List Nat}{fuel : Nat}{listed : Array Bool}{a : Act}{w : World}
end
theorem zo9 (b k i : Nat) : (⟨b,k,none⟩ : Addr).add i = ⟨b,k + i,none⟩ := by
 unfold Addr.add
 split
 ·rename_i h; subst h; rfl
 ·rfl
theorem zbW (b : Nat){i : Int}{d : Nat}(hi : i = (d : Int))(hd : d < 11)(w : World) : (Instr.indexAt 57 (.pointer (some ⟨b,1,none⟩)) (.int .i8 i)).run prog w = .ok (.pointer (some ⟨b,1 + d,none⟩)) w := by
 subst hi;go_simp;intro h;omega
def MT (b g : Nat)(regs : List Int)(w : World) : Prop := w.cell? ⟨b,0,none⟩ = some (.pointer (some ⟨g,0,none⟩)) ∧ ∀ d,d < 11 → w.cell? ⟨b,1 + d,none⟩ = some (.int .i64 (regs.getD d 0))
theorem MA.mt {base g b : Nat}{F G : Nat → Prop}{m : SM}{ex : ExD}{w : World}(h : MA base g b F G m ex w) : MT b g m.regs w := ⟨h.cp,fun d hd => h.creg hd⟩
theorem MA.evs {base g b : Nat}{F G : Nat → Prop}{m : SM}{ex : ExD}{w : World}(h : MA base g b F G m ex w) : ∃ A c,w.cell? ⟨b,12,none⟩ = some (.slice A m.evs.length c) ∧ zbt w (fun _ => False) (.slice A m.evs.length c) m.evs := by
 obtain ⟨es,q,hes,_,hown,hq,hqw,_⟩ := h.ces;obtain ⟨A,c,rfl,hc,hR⟩ := za5.of_own (F := fun _ => False) hown (fun _ _ q => q);exact ⟨A,c,hes,A,c,q,rfl,hc,hq,hR,fun p hp => ⟨(hqw p hp).1,(hqw p hp).2.chg (H := fun _ => False) (Chg.refl _ w) (fun _ q => q.elim) (fun _ q => q.elim)⟩⟩
/-! ### Brings -/
def brT (l : List EvD)(k : Nat) : Nat := zat (l.take k)
theorem zd7 {l : List EvD}{k : Nat}{x : EvD}(hx : l[k]? = some x) : brT l (k + 1) = if zdT x then brT l k + 1 else brT l k := by
 unfold brT zat;rw [ztF,hx,List.filter_append,List.length_append];simp only [Option.toList_some,List.filter_cons,List.filter_nil]
 cases zdT x <;> simp
theorem zj7 (l : List EvD)(k : Nat) : brT l k ≤ k := by
 unfold brT zat;refine zto (List.length_filter_le _ _) ?_;rw [ztW];omega
theorem zqV : (prog.info? 72).map (·.size) = some 6 := by kernel_rfl
theorem EvD.one {x : EvD}{v : Value}(hv : v.oneCell' = true) : ∀ u ∈ evC (x,v),u.oneCell' = true := by
 intro u hu;unfold evC at hu;simp only [ztM,zt5,or_false] at hu
 rcases hu with rfl | rfl | rfl | rfl | rfl | rfl <;> first | rfl | exact hv
theorem zk5 (A : Option Addr)(n c : Nat)(l : List EvD)(w : World)(h : zbt w (fun _ => False) (.slice A n c) l)(hn : n ≤ 64) :
  Calls prog 24 #[.slice A n c] w fun e w' => e = .returned (.int .i64 (zat l : Int)) ∧ Below w.heap.size w w' := by
 have hl : l.length = n := by
  obtain ⟨A',c',h1,_⟩ := h.form;injection h1 with _ h1
  exact h1.symm
 have HL := Hd hl
 have HE := Hd h
 clear h hl;go_enter func24,ntmps24;go_wp2;go_loopw [2,7] (fun v i wr => ∃ k : Nat,k ≤ n ∧ i = .int .i64 k ∧ v = .int .i64 (brT l k : Int) ∧ Below w.heap.size w wr) (fun _ i _ => n - (intOf i).toNat)
 case atStart => exact ⟨0,by omega,rfl,rfl,Below.refl _ _⟩
 case round =>
  obtain ⟨k,hk,rfl,rfl,hb⟩ := hrel;have HB := Hd hb
  clear hb
  by_cases hlt : k < n
  ·obtain ⟨ad,x,v,rfl,hab,hx,hxw,hnv,hcell⟩ := (HE.out.chg (G := fun _ => False) (Chg.of_below HB.out) (fun _ q => .inl q) (fun _ q => .inl q)).at_ hlt
   obtain ⟨A',c',rfl⟩ := hnv.form;have HX := Hd hx
   have HC := Hd hcell
   have hsz := HB.out.size;have hbt := zj7 l k;obtain ⟨t,ht⟩ : ∃ t,brT l k = t := ⟨_,rfl⟩;rw [ht] at hbt ⊢;have HT := Hd ht
   clear hx hcell hxw hnv ht;go_upto_region 4 with (first
    | (refine zae rfl 72 (.tmp 9) rfl (ad.add (k * 6)) (by rfl) (evC (x,.slice A' x.args.length c')) _ HC.out underlying72 rfl zqV ?_)
    | (refine zag rfl 72 (.tmp 4) (.tmp 10) rfl _ (evC (x,.slice A' x.args.length c')) (.agg (evC (x,.slice A' x.args.length c')).toArray) (by rfl) (by rfl) rfl zqV (by rfl) (EvD.one rfl) ?_
       intro w4 X4 L4 S4;have HX4 := Hd X4
       have HB4 := Hd (HB.out.trans (L4.mono hsz))
       clear X4 L4 S4)
    | fail)
   have b0 : w4.cell? ⟨wr.heap.size,0,none⟩ = some (.int .i8 x.kind) := HX4.out.cell 0;obtain ⟨kd,hkd⟩ : ∃ v,x.kind = v := ⟨_,rfl⟩;rw [hkd] at b0;have HKD := Hd hkd
   clear hkd
   cases h0 : (kd != 0)
   ·have HS := Hd (show brT l (k + 1) = t + 1 by rw [zd7 HX.out,← HT.out,if_pos (by unfold zdT; rw [HKD.out]; simp at h0; rw [h0]; rfl)])
    go_wp2;go_roundw
    case measure => simp [intOf]; omega
    case rel => exact ⟨k + 1,by omega,by go_num,by rw [HS.out]; go_num,HB4.out⟩
   ·cases h2 : (kd != 2)
    ·have HS := Hd (show brT l (k + 1) = t + 1 by rw [zd7 HX.out,← HT.out,if_pos (by unfold zdT; rw [HKD.out]; simp at h2; rw [h2]; rfl)])
     go_wp2;go_roundw
     case measure => simp [intOf]; omega
     case rel => exact ⟨k + 1,by omega,by go_num,by rw [HS.out]; go_num,HB4.out⟩
    ·have HS := Hd (show brT l (k + 1) = t by rw [zd7 HX.out,← HT.out,if_neg (by unfold zdT; rw [HKD.out]; simp at h0 h2 ⊢; exact ⟨h0,h2⟩)])
     go_wp2;go_roundw
     case measure => simp [intOf]; omega
     case rel => exact ⟨k + 1,by omega,by go_num,by rw [HS.out],HB4.out⟩
  ·obtain rfl : k = n := by omega
   have HS := Hd (show brT l k = zat l by unfold brT; rw [ztN (by rw [HL.out]; exact ztn _)])
   go_wp2;go_ret;exact ⟨by rw [HS.out]; rfl,HB.out⟩
end
section
section
variable {base g b : Nat}{F G F1 G1 : Nat → Prop}{m : SM}{ex : ExD}{w w' : World}{es es' : Value}{q : List (EvD × Value)}
theorem MA.push (h : MA base g b F G m ex w)(hB : Blk w b 114 (mC g m.regs es ex m.err).toArray)(hown : w.ownsRow (b + 1) 72 6 es m.evs.length (q.flatMap evC))(hq : q.map (·.1) = m.evs)(hqw : ∀ p ∈ q,p.1.wf ∧ zbk w (Uq G b) p.2 p.1.args)(hes : ∀ k,es.ownBlock = some k → G k ∧ ¬ F k ∧ k ≠ b)
  {x : EvD} {v : Value} (hx : x.wf) (hv : zbk w (Uq G b) v x.args) (hlt : m.evs.length < 64) (R : w'.ownsRow (b + 1) 72 6 es' (m.evs.length + 1) (q.flatMap evC ++ evC (x,v))) (Gr : w.grownBy w' es.ownBlock) (O : ∀ k,es'.ownBlock = some k → es.ownBlock = some k ∨ w.heap.size ≤ k) :
  MG base g b G w F (fun k => G k ∨ es'.ownBlock = some k) (m.event x) ex (w'.setCell ⟨b,12,none⟩ es') := by
 have hcE : Chg (fun k => es.ownBlock = some k) w w' := Chg.of_grown Gr (fun k e => .inl e);have hcG : Chg G w w' := hcE.mono (fun k e => .inl (hes k e).1);have hbe : es.ownBlock ≠ some b := fun e => (hes b e).2.2 rfl
 have hB' := (hcE.blk hB hbe).set_ 12 es';rw [zuc,zj5 h.len] at hB';have hb12 : Chg (fun k => k = b) w' (w'.setCell ⟨b,12,none⟩ es') := zbs (b := b) rfl es' rfl;have hbG : Chg G w' (w'.setCell ⟨b,12,none⟩ es') := hb12.mono (fun k e => .inl (e ▸ h.nb.2));have hc : Chg G w (w'.setCell ⟨b,12,none⟩ es') := hcG.trans hbG (fun k q => .inl q);have hne : ∀ k,es'.ownBlock = some k → k ≠ b := fun k e => by
  rintro rfl
  rcases O _ e with e2 | e2
  ·exact hbe e2
  ·have := h.lt; omega
 have hnG : ∀ k,es'.ownBlock = some k → G k ∨ w.heap.size ≤ k := fun k e => (O k e).elim (fun e2 => .inl (hes k e2).1) .inr
 have hUp : ∀ k,Uq (fun k => G k ∨ es'.ownBlock = some k) b k → Uq G b k ∨ w.heap.size ≤ k := fun k hk => hk.elim (fun hk => hk.elim (fun z => .inl (.inl z)) (fun z => (hnG k z).elim (fun z => .inl (.inl z)) .inr)) (fun z => .inl (.inr z))
 refine ⟨⟨?_,⟨es',q ++ [(x,v)],hB',?_,?_,fun p hp => ?_,fun k e => ⟨.inr e,fun qf => ?_,hne k e⟩⟩,⟨h.nb.1,.inl h.nb.2⟩,fun k qf => .inl (h.sub k qf),fun k hk => ?_,h.len,h.rng,?_⟩,hc,fun k hk => hk.elim .inl (hnG k)⟩
 ·have h1 : zam w' base F g m.p := h.pool.chg hcE (fun k qf e => (hes k e).2.1 qf)
  exact h1.chg hb12 (fun k qf e => h.nb.1 (e ▸ qf))
 ·have e1 : (m.event x).evs.length = m.evs.length + 1 := by unfold SM.event; simp
  have e2 : (q ++ [(x,v)]).flatMap evC = q.flatMap evC ++ evC (x,v) := by rw [List.flatMap_append]; simp
  rw [e1,e2];exact hb12.own R (fun k e => hne k e)
 ·rw [List.map_append,hq]
  rfl
 ·rcases List.mem_append.1 hp with hp | hp
  ·exact ⟨(hqw p hp).1,(hqw p hp).2.chg hc (fun k qg => .inl (.inl qg)) hUp⟩
  ·have hp : p = (x,v) := by simpa using hp
   subst hp;exact ⟨hx,hv.chg hc (fun k qg => .inl (.inl qg)) hUp⟩
 ·rcases O k e with e2 | e2
  ·exact (hes k e2).2.1 qf
  ·have := h.low k (h.sub k qf); omega
 ·rcases hk with hk | hk
  ·have := h.low k hk
   have := hc.size;omega
  ·have := zaQ R k hk
   have := h.low b h.nb.2;simp;omega
 ·unfold SM.event
  simp;omega
theorem MA.exit (h : MA base g b F G m ex w)(ex' : ExD)(hB : ∀ es,Blk w b 114 (mC g m.regs es ex m.err).toArray → Blk w' b 114 (zaM (mC g m.regs es ex m.err) 13 [.int .i8 ex'.kind,.int .i64 ex'.v,.int .i64 ex'.tgt,.int .i64 ex'.els]).toArray)(Gr : w.grownBy w' (some b)) :
  MG base g b G w F G m ex' w' := by
 obtain ⟨es,q,h1,h2,h3,h4,h5⟩ := h.box;have hcb : Chg (fun k => k = b) w w' := Chg.of_grown Gr (fun k e => .inl (by injection e with e; exact e.symm));have hc : Chg G w w' := hcb.mono (fun k e => .inl (e ▸ h.nb.2));have hB' := hB es h1;rw [znl h.len] at hB';exact ⟨⟨h.pool.chg hcb (fun k qf e => h.nb.1 (e ▸ qf)),⟨es,q,hB',hcb.own h2 (fun k e => (h5 k e).2.2),h3,fun p hp => ⟨(h4 p hp).1,(h4 p hp).2.chg hc (fun c q => .inl (.inl q)) (fun c q => .inl q)⟩,h5⟩,h.nb,h.sub,fun k hk => ⟨(h.low k hk).1,zty (h.low k hk).2 hc.size⟩,h.len,h.rng,h.few⟩,hc,fun k q => .inl q⟩
end
theorem zar.store_at {P : Program}{ops : Array Oper}{Q : Exit → Act → World → Prop}{md : Region.Mode}{T S : World → Prop}{late : List Nat}{fuel : Nat}{listed : Array Bool}{a : Act}{w : World}(i : Nat)(ty : TypeId)(x y : Operand)(ad : Addr)(v : Value)(w1 : World)(ho : zc6 ops i = some (none,.store ty x y))(hw : zaS ops i a = some true)
  (hx : a.eval x = .pointer (some ad)) (hy : a.eval y = v) (hr : (storeVar ty ad v).run P w = .ok () w1) (hS : St T S late (listed.setIfInBounds i true) w1) (h : zas P md ops Q T S late fuel (listed.setIfInBounds i true) (a.put none undef) w1) : zar P md ops Q T S late fuel listed a w i :=
 zar.skip i _ w1 ho hw (fun o e => by
  unfold execOp;simp only [e,hx,hy,Instr.storeAt,Instr.sureAddr,Sem.run_bind,Sem.run_pure,Result.andThen_ok,hr]) hS h
end
section
theorem znm (cc : Int){x a b a' b' : Int}(h1 : zao x a' = zao x a)(h2 : zao x b' = zao x b) : zaJ cc x a' b' = zaJ cc x a b := by
 unfold zaJ;rw [h1,h2]
theorem zpa (a : Int) : zcw a a = 0 := by unfold zcw; simp
theorem zk6 {cc : Int}(h : cc ≠ 10)(x a : Int) : zaJ cc x 0 0 = zaJ cc x a a := by
 unfold zaJ;rw [if_neg h,if_neg h];simp only [zpa]
theorem zqW (a b : Int) : zcw b a = - zcw a b := by
 unfold zcw
 by_cases h1 : a < b
 ·rw [if_neg (by omega),if_pos h1,if_pos h1]; rfl
 ·by_cases h2 : b < a
  ·rw [if_pos h2,if_neg h1,if_pos h2]
  ·rw [if_neg h2,if_neg h1,if_neg h1,if_neg h2]; rfl
theorem zio {cc : Int}(h : zbO cc = true)(x a b : Int) : zaJ (zc1 cc) x b a = zaJ cc x a b := by
 unfold zbO at h;simp at h;have key : ∀ u v : Int,(zcw v u < 0 ↔ 0 < zcw u v) ∧ (zcw v u ≤ 0 ↔ 0 ≤ zcw u v) := by
  intro u v;rw [zqW u v]
  constructor <;> omega
 rcases h with rfl | rfl | rfl | rfl
 ·show zaJ 4 x b a = zaJ 2 x a b
  unfold zaJ;simp;exact (key _ _).1
 ·show zaJ 5 x b a = zaJ 3 x a b
  unfold zaJ;simp;exact (key _ _).2
 ·show zaJ 8 x b a = zaJ 6 x a b
  unfold zaJ;simp;exact (key _ _).1
 ·show zaJ 9 x b a = zaJ 7 x a b
  unfold zaJ;simp;exact (key _ _).2
section
variable {vs : List Int}(hU : ∀ v ∈ vs,U64 v)
include hU
theorem zip : ∀ (f : Nat) {p : PS} (hw : WfP p) (hr : ∀ t ∈ p.T,t.wf) (hav : AV vs p) {op x a b va vb : Int} {r : RS} (hva : evP p.T vs a = some va) (hvb : evP p.T vs b = some vb),opF f p op x a b = some r → Snd vs p r (doU op x va vb)
 | 0,_,_,_,_,_,_,_,_,_,_,_,_,_,h => by cases h
 | f + 1,p,hw,hr,hav,op,x,a,b,va,vb,r,hva,hvb,h => by
  rw [zbu] at h
  split at h
  ·injection h with h; subst h; exact Snd.err hw hr hav 0 _ (by decide)
  rename_i hab;have hab : zal p.T a = true ∧ zal p.T b = true := by simpa using hab
  split at h
  ·injection h with h; subst h; exact Snd.err hw hr hav 0 _ (by decide)
  rename_i hd;have hd := zbE (op := op) (x := x) (by simpa using hd);have hx := hd.1;have hwx : Wd4 x := by unfold Wd4; omega
  have hI8 : I8 op ∧ I8 x := by unfold I8; omega
  have hw2 := zbK hw hr (zap hw hab.1) (zap hw hab.2) x;have hbs := zjU hU hw hr hav hx hab.1 hab.2 hva hvb;have hua := zc2 hr hU hva;have hub := zc2 hr hU hvb
  split at h
  ·rename_i h0
   have hf := zbb hw hr hab.1 hab.2 h0;have hbe := zc8 p x a b;obtain ⟨ua,ub,hA,hB,hcA,hcB,huA,huB⟩ := hbs.2 h0;have hav2 := hbs.1;rw [← zoJ op hx hua hub huA huB hcA hcB];refine Snd.up hbe ?_;generalize zaj p x a b = z at h hw2 hf hA hB hav2;obtain ⟨p1,a1,b1,e1⟩ := z;dsimp only at h hw2 hf hA hB hav2;have hc : ∀ {n : Int},U64 n → Snd vs p1 (putR p1 (zaf n)) n := fun hn => Snd.put hw2.1 hw2.2 hav2 (zaP hn) rfl
   have upA : ∀ {q : PS} {v : Int} {s : RS},Snd vs p1 s v → ∀ {n w : Int},evP p1.T vs n = some w → evP s.1.T vs n = some w := fun {_ _ _} hs {_ _} hn => zdK hw2.1 hs.good.wf hs.good.ext hn
   have kA : (atP p1.T a1).kind = 0 → (atP p1.T a1).n = ua := fun k => by
    have := zdA (vs := vs) hw2.1 hf.1 k;rw [hA] at this;injection this with this
    exact this.symm
   have kB : (atP p1.T b1).kind = 0 → (atP p1.T b1).n = ub := fun k => by
    have := zdA (vs := vs) hw2.1 hf.2.1 k;rw [hB] at this;injection this with this
    exact this.symm
   unfold opL at h;dsimp only at h
   split at h
   ·rename_i c1
    injection h with h; subst h
    simp at c1;rw [kA c1.1,kB c1.2];exact hc (zau (zfV (zau huA) (zau huB)))
   split at h
   ·rename_i c2
    subst c2;refine Snd.bind (hc zaA) (fun hz s hs => ?_) h;have h1 := hc zaA;exact (zip f h1.good.wf h1.good.rng h1.av (h1.val hz) (upA (q := p1) h1 hA) hs).cast (zqu hx huA)
   split at h
   ·rename_i c3
    subst c3;exact (zey hU f hw2.1 hw2.2 hav2 hwx hf.2.1 hB h).cast (zqv hx huB)
   split at h
   ·rename_i c4
    have hop : op = 1 ∧ (atP p1.T b1).kind = 0 := by simpa using c4
    rw [kB hop.2] at h;obtain ⟨rfl,_⟩ := hop;have hu : U64 (zao x (IntKind.u64.wrap (-ub))) := zau (wrap_u64 _);refine Snd.bind (hc hu) (fun hz s hs => ?_) h;have h1 := hc hu;exact (zip f h1.good.wf h1.good.rng h1.av (upA (q := p1) h1 hA) (h1.val hz) hs).cast (zqw hx huA huB)
   split at h
   ·rename_i c5
    have ht : zaK op = true := by
     cases ht : zaK op
     ·rw [ht] at c5; simp at c5
     ·rfl
    exact (zip f hw2.1 hw2.2 hav2 hB hA h).cast (zn6 ht x ub ua)
   split at h
   ·rename_i c6
    unfold zb5 at c6;simp at c6;obtain ⟨rfl,hkb,hks,hk2,hop0,hww⟩ := c6;have hsa := zdy hw2.1 hf.1 (k := (atP p1.T a1).a) (by unfold zax; rw [if_pos (.inl hk2)]; simp);have hsb := zdy hw2.1 hf.1 (k := (atP p1.T a1).b) (by unfold zax; rw [if_pos (.inl hk2)]; simp);obtain ⟨vsa,hvsa⟩ := hav2 _ hsa;have hcb := zdA (vs := vs) hw2.1 hsb hks;have hA' := hA;rw [zds hw2.1 hf.1] at hA';unfold evT at hA';rw [if_neg (by omega),if_neg (by omega),if_pos hk2,hvsa,hcb] at hA';have hA'' : doU (atP p1.T a1).op (atP p1.T a1).w vsa (atP p1.T (atP p1.T a1).b).n = ua := by
     simpa using hA'
    rw [hop0,hww] at hA'';rw [kB hkb] at h;have hun := zc2 hw2.2 hU hcb;have hu : U64 (zao x (IntKind.u64.wrap ((atP p1.T (atP p1.T a1).b).n + ub))) := zau (wrap_u64 _);refine Snd.bind (hc hu) (fun hz s hs => ?_) h;have h1 := hc hu;refine (zip f h1.good.wf h1.good.rng h1.av (upA (q := p1) h1 hvsa) (h1.val hz) hs).cast ?_;rw [zmQ hx (zc2 hw2.2 hU hvsa) hun huB,hA'']
   split at h
   ·rename_i c7
    simp only [ztr] at c7;have hkb : (atP p1.T b1).kind = 0 := by simpa using c7.1
    rw [kB hkb] at c7;exact (zey hU f hw2.1 hw2.2 hav2 hwx hf.1 hA h).cast (zoN hx huA huB c7.2).symm
   split at h
   ·rename_i c8
    simp only [ztr] at c8;have hkb : (atP p1.T b1).kind = 0 := by simpa using c8.1
    rw [kB hkb] at c8;injection h with h; subst h
    exact (hc zaA).cast (zqx hx c8.2).symm
   have same : a1 = b1 → ua = ub := fun e => by subst e; rw [hA] at hB; injection hB
   split at h
   ·rename_i c9
    simp at c9;injection h with h; subst h
    rw [← same c9.1];exact (hc zaA).cast (zoM hx c9.2).symm
   split at h
   ·rename_i c10
    simp at c10;rw [← same c10.1];exact (zey hU f hw2.1 hw2.2 hav2 hwx hf.1 hA h).cast (zqy hx huA c10.2).symm
   ·injection h with h; subst h
    refine Snd.put hw2.1 hw2.2 hav2 (zlB hI8.1 hI8.2 (zap hw2.1 hf.1) (zap hw2.1 hf.2.1)) ?_;show ((evP p1.T vs a1).bind fun u => (evP p1.T vs b1).map fun w => doU op x u w) = _
    rw [hA,hB]
    rfl
  ·rename_i h0
   injection h with h; subst h
   exact ⟨⟨zc8 p x a b,hw2.1,hw2.2,fun e => absurd e h0⟩,hbs.1,fun e => absurd e h0⟩
theorem zj8 : ∀ (f : Nat) {p : PS} (hw : WfP p) (hr : ∀ t ∈ p.T,t.wf) (hav : AV vs p) {cc x a b va vb : Int} {r : RS} (hva : evP p.T vs a = some va) (hvb : evP p.T vs b = some vb),zdg f p cc x a b = some r → Snd vs p r (zcO (zaJ cc x va vb))
 | 0,_,_,_,_,_,_,_,_,_,_,_,_,_,h => by cases h
 | f + 1,p,hw,hr,hav,cc,x,a,b,va,vb,r,hva,hvb,h => by
  rw [zby] at h
  split at h
  ·injection h with h; subst h; exact Snd.err hw hr hav 0 _ (by decide)
  rename_i hab;have hab : zal p.T a = true ∧ zal p.T b = true := by simpa using hab
  split at h
  ·injection h with h; subst h; exact Snd.err hw hr hav 0 _ (by decide)
  rename_i hd;have hd := za7 (cc := cc) (x := x) (by simpa using hd);have hx := hd.1;have hI8 : I8 cc ∧ I8 x := by unfold I8; omega
  have hw2 := zbK hw hr (zap hw hab.1) (zap hw hab.2) x;have hbs := zjU hU hw hr hav hx hab.1 hab.2 hva hvb
  split at h
  ·rename_i h0
   have hf := zbb hw hr hab.1 hab.2 h0;have hbe := zc8 p x a b;obtain ⟨ua,ub,hA,hB,hcA,hcB,huA,huB⟩ := hbs.2 h0;have hav2 := hbs.1;rw [← znm cc hcA hcB];refine Snd.up hbe ?_;generalize zaj p x a b = z at h hw2 hf hA hB hav2;obtain ⟨p1,a1,b1,e1⟩ := z;dsimp only at h hw2 hf hA hB hav2;have hc : ∀ {n : Int},U64 n → Snd vs p1 (putR p1 (zaf n)) n := fun hn => Snd.put hw2.1 hw2.2 hav2 (zaP hn) rfl
   have kA : (atP p1.T a1).kind = 0 → (atP p1.T a1).n = ua := fun k => by
    have := zdA (vs := vs) hw2.1 hf.1 k;rw [hA] at this;injection this with this
    exact this.symm
   have kB : (atP p1.T b1).kind = 0 → (atP p1.T b1).n = ub := fun k => by
    have := zdA (vs := vs) hw2.1 hf.2.1 k;rw [hB] at this;injection this with this
    exact this.symm
   have hia := zap hw2.1 hf.1;have hib := zap hw2.1 hf.2.1;unfold zeh at h;dsimp only at h
   split at h
   ·rename_i c1
    injection h with h; subst h
    simp at c1;rw [kA c1.1,kB c1.2];exact hc (zb4 _)
   split at h
   ·rename_i c2
    injection h with h; subst h
    simp at c2;obtain ⟨rfl,hcc⟩ := c2;rw [hA] at hB;injection hB with hB
    subst hB;exact (hc (zb4 _)).cast (by rw [zk6 hcc])
   split at h
   ·rename_i c3
    exact (zj8 f hw2.1 hw2.2 hav2 hB hA h).cast (by rw [zio c3])
   split at h
   ·rename_i c4
    have hcm : cc = 0 ∨ cc = 1 ∨ cc = 10 := by
     unfold zdr at c4;simp only [ztr,ztP] at c4
     simpa using c4.1
    injection h with h; subst h
    refine Snd.put hw2.1 hw2.2 hav2 (zdB hI8.1 hI8.2 hib hia) ?_;show ((evP p1.T vs b1).bind fun u => (evP p1.T vs a1).map fun w => zcO (zaJ cc x u w)) = _
    rw [hA,hB,zkv hcm x ua ub]
    rfl
   ·injection h with h; subst h
    refine Snd.put hw2.1 hw2.2 hav2 (zdB hI8.1 hI8.2 hia hib) ?_;show ((evP p1.T vs a1).bind fun u => (evP p1.T vs b1).map fun w => zcO (zaJ cc x u w)) = _
    rw [hA,hB]
    rfl
  ·rename_i h0
   injection h with h; subst h
   exact ⟨⟨zc8 p x a b,hw2.1,hw2.2,fun e => absurd e h0⟩,hbs.1,fun e => absurd e h0⟩
end
end
section
structure DA (base g b : Nat)(F G : Nat → Prop)(m : SM)(ex : ExD)(w : World) : Prop where
 pool : zaO w base F g m.p
 box : ∃ es,∃ q : List (EvD × Value),Blk w b 120 (mC g m.regs es ex m.err).toArray ∧ w.ownsRow (b + 1) 72 6 es m.evs.length (q.flatMap evC) ∧ q.map (·.1) = m.evs ∧ (∀ p ∈ q,p.1.wf ∧ zbk w (Uq G b) p.2 p.1.args) ∧ ∀ k,es.ownBlock = some k → G k ∧ ¬ F k ∧ k ≠ b
 nb : ¬ F b ∧ G b
 sub : ∀ k,F k → G k
 low : ∀ k,G k → base ≤ k ∧ k < w.heap.size
 len : m.regs.length = 11
 rng : ∀ r ∈ m.regs,I64 r
 few : m.evs.length ≤ 64
structure DG (base g b : Nat)(G : Nat → Prop)(w : World)(F' G' : Nat → Prop)(m : SM)(ex : ExD)(w' : World) : Prop where
 at_ : DA base g b F' G' m ex w'
 chg : Chg G w w'
 new : ∀ k,G' k → G k ∨ w.heap.size ≤ k
section
variable {base g b : Nat}{F G F1 G1 F2 G2 : Nat → Prop}{m m1 m2 : SM}{ex ex1 ex2 : ExD}{w w1 w2 : World}{p1 : PS}
theorem DG.refl (h : DA base g b F G m ex w) : DG base g b G w F G m ex w := ⟨h,Chg.refl _ _,fun k q => .inl q⟩
theorem DG.trans (h : DG base g b G w F1 G1 m1 ex1 w1)(k : DG base g b G1 w1 F2 G2 m2 ex2 w2) : DG base g b G w F2 G2 m2 ex2 w2 :=
 ⟨k.at_,h.chg.trans k.chg h.new,fun b q => (k.new b q).elim (h.new b) (fun e => .inr (zto h.chg.size e))⟩
theorem DG.size (h : DG base g b G w F1 G1 m1 ex1 w1) : w.heap.size ≤ w1.heap.size := h.chg.size
theorem DG.blk (h : DG base g b G w F1 G1 m1 ex1 w1){c : Nat}{t : TypeId}{cs : Array Value}(hb : Blk w c t cs)(hg : ¬ G c) : Blk w1 c t cs ∧ ¬ G1 c :=
 ⟨h.chg.blk hb hg,fun q => (h.new c q).elim hg (fun e => by have := hb.lt; omega)⟩
theorem DA.below (h : DA base g b F G m ex w)(hb : Below w.heap.size w w1) : DA base g b F G m ex w1 := by
 obtain ⟨es,q,h1,h2,h3,h4,h5⟩ := h.box;exact ⟨h.pool.below hb,⟨es,q,h1.below hb h1.lt,(zbr.of_own h2).below hb |> fun _ => zaG h2 (fun k hk => hb.block k (zaQ h2 k hk).2),h3,fun p hp => ⟨(h4 p hp).1,(h4 p hp).2.chg (.of_below hb) (fun k hk => .inr hk) (fun k hk => .inl hk)⟩,h5⟩,h.nb,h.sub,fun k hk => ⟨(h.low k hk).1,zty (h.low k hk).2 hb.size⟩,h.len,h.rng,h.few⟩
theorem DG.step (h : DG base g b G w F1 G1 m1 ex1 w1)(hb : Below w1.heap.size w1 w2) : DG base g b G w F1 G1 m1 ex1 w2 := h.trans ⟨h.at_.below hb,Chg.of_below hb |>.mono (fun _ q => .inr q),fun k q => .inl q⟩
theorem DG.of_below (h : DA base g b F G m ex w)(hb : Below w.heap.size w w1) : DG base g b G w F G m ex w1 := (DG.refl h).step hb
theorem DA.pg (h : DA base g b F G m ex w)(k : RG base g F w F1 p1 w1) : DG base g b G w F1 (fun c => G c ∨ F1 c) { m with p := p1 } ex w1 := by
 obtain ⟨es,q,h1,h2,h3,h4,h5⟩ := h.box;have hb := k.blk h1 h.nb.1;have hc : Chg G w w1 := k.chg.mono (fun c q => .inl (h.sub c q));refine ⟨⟨k.pool,⟨es,q,hb.1,k.chg.own h2 (fun c hc => (h5 c hc).2.1),h3,fun p hp => ⟨(h4 p hp).1,(h4 p hp).2.chg hc (fun c q => .inl (.inl q)) (fun c q => q.elim (fun q => q.elim (fun q => .inl (.inl q)) (fun q => (k.new c q).elim (fun q => .inl (.inl (h.sub c q))) .inr)) (fun q => .inl (.inr q)))⟩,fun c hc => ⟨.inl (h5 c hc).1,fun q => (k.new c q).elim (h5 c hc).2.1 (fun e => by have := (zaQ h2 c hc).2; omega),(h5 c hc).2.2⟩⟩,⟨hb.2,.inl h.nb.2⟩,fun c q => .inr q,fun c q => ?_,h.len,h.rng,h.few⟩,hc,fun c q => q.elim .inl (fun q => (k.new c q).elim (fun q => .inl (h.sub c q)) .inr)⟩
 rcases q with q | q
 ·have := h.low c q
  have := k.chg.size;omega
 ·exact k.pool.fb c q
theorem DA.cell (h : DA base g b F G m ex w){i : Nat}{u : Value}{m1 : SM}{ex1 : ExD}(hp : m1.p = m.p)(he : m1.evs = m.evs)(hl : m1.regs.length = 11)(hr : ∀ r ∈ m1.regs,I64 r)
  (hs : ∀ es,(mC g m.regs es ex m.err).set i u = mC g m1.regs es ex1 m1.err) : DG base g b G w F G m1 ex1 (w.setCell ⟨b,i,none⟩ u) := by
 obtain ⟨es,q,h1,h2,h3,h4,h5⟩ := h.box;have hc : Chg G w (w.setCell ⟨b,i,none⟩ u) := zbs rfl u h.nb.2;have hcF : Chg (fun k => k = b) w (w.setCell ⟨b,i,none⟩ u) := zbs (b := b) rfl u rfl;have hB := h1.set_ i u;rw [zuc,hs] at hB;refine ⟨⟨?_,⟨es,q,hB,?_,by rw [he]; exact h3,fun p hp => ⟨(h4 p hp).1,(h4 p hp).2.chg hc (fun c q => .inl (.inl q)) (fun c q => .inl q)⟩,h5⟩,h.nb,h.sub,fun k hk => ⟨(h.low k hk).1,zty (h.low k hk).2 hc.size⟩,hl,hr,by rw [he]; exact h.few⟩,hc,fun k q => .inl q⟩
 ·rw [hp]; exact h.pool.chg hcF (fun c q e => h.nb.1 (e ▸ q))
 ·rw [he]; exact hcF.own h2 (fun c hc e => (h5 c hc).2.2 e)
theorem DA.setErr (h : DA base g b F G m ex w)(er : Int) : DG base g b G w F G { m with err := er } ex (w.setCell ⟨b,17,none⟩ (.int .i64 er)) :=
 h.cell rfl rfl h.len h.rng (fun es => zin h.len)
theorem DA.setReg (h : DA base g b F G m ex w){d : Nat}(hd : d < 11){n : Int}(hn : I64 n) : DG base g b G w F G { m with regs := m.regs.set d n } ex (w.setCell ⟨b,1 + d,none⟩ (.int .i64 n)) :=
 h.cell rfl rfl (by rw [zub]; exact h.len) (fun r hr => (List.mem_or_eq_of_mem_set hr).elim (h.rng r) (fun e => e ▸ hn)) (fun es => zim h.len hd n)
theorem DA.cp (h : DA base g b F G m ex w) : w.cell? ⟨b,0,none⟩ = some (.pointer (some ⟨g,0,none⟩)) := by
 obtain ⟨es,q,h1,_⟩ := h.box;rw [h1.cell 0]
 rfl
theorem DA.creg (h : DA base g b F G m ex w){d : Nat}(hd : d < 11) : w.cell? ⟨b,1 + d,none⟩ = some (.int .i64 (m.regs.getD d 0)) := by
 obtain ⟨es,q,h1,_⟩ := h.box;rw [h1.cell (1 + d),ztK];exact zpT h.len hd
theorem DA.cerr (h : DA base g b F G m ex w) : w.cell? ⟨b,17,none⟩ = some (.int .i64 m.err) := by
 obtain ⟨es,q,h1,_⟩ := h.box;rw [h1.cell 17,ztK];exact zhC h.len 5
theorem DA.ces (h : DA base g b F G m ex w) : ∃ es,∃ q : List (EvD × Value),w.cell? ⟨b,12,none⟩ = some es ∧ Blk w b 120 (mC g m.regs es ex m.err).toArray ∧ w.ownsRow (b + 1) 72 6 es m.evs.length (q.flatMap evC) ∧ q.map (·.1) = m.evs ∧ (∀ p ∈ q,p.1.wf ∧ zbk w (Uq G b) p.2 p.1.args) ∧ ∀ k,es.ownBlock = some k → G k ∧ ¬ F k ∧ k ≠ b := by
 obtain ⟨es,q,h1,h2⟩ := h.box;refine ⟨es,q,?_,h1,h2⟩;rw [h1.cell 12,ztK];exact zhC h.len 0
theorem DA.lt (h : DA base g b F G m ex w) : b < w.heap.size := (h.low b h.nb.2).2
theorem DA.reg_i64 (h : DA base g b F G m ex w){d : Nat}(hd : d < 11) : I64 (m.regs.getD d 0) := h.rng _ (zj6 (by rw [h.len]; exact hd))
def zso (base g b : Nat)(G : Nat → Prop)(ex : ExD)(w : World)(r : SM × Int)(e : Ending)(w' : World) : Prop := e = .returned (.int .i64 r.2) ∧ I64 r.2 ∧ ∃ F' G',DG base g b G w F' G' r.1 ex w'
end
end
section
def ztj (a b : List Int) : Bool := decide (a = b)
def DrP (b : Bool)(w : World)(e : Ending)(w' : World) : Prop := e = .returned (.bool b) ∧ ∃ d,w' = w.drewN d
def sameE (x y : EvD) : Bool := x.kind == y.kind && (x.size == y.size && (x.a == y.a && (x.v == y.v && (x.num == y.num && ztj x.args y.args))))
theorem zbk.nx {w : World}{F : Nat → Prop}{s : Value}{l : List Int}(h : zbk w F s l) : zjd w w.heap.size s l := by
 obtain ⟨A,c,h1,h2,h3,h4,h5⟩ := h;exact ⟨A,c,h1,h2,h3.reads,h4,by omega⟩
end
end Go.Proofs.YtepagfkkjlbipaaGreat
