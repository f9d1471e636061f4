/-
  Parts of the proof of SymbcRuns. Conditions: those written in each statement.
-/
import Derived.Test.YtepagfkkjlbipaaGreatKba
import Derived.Test.YtepagfkkjlbipaaGreatBm
set_option linter.unusedVariables false
set_option linter.unusedSimpArgs false
set_option maxHeartbeats 64000000
set_option maxRecDepth 100000
namespace Go.Proofs.YtepagfkkjlbipaaGreat
open Go.RowKit
open Tryz
section
def zgu (b f : Nat) : Value := .func (.func f) #[.pointer (some ⟨b,0,none⟩)] #[]
theorem zk7 : za1 43 := enters_of func43 (by kernel_rfl) rfl
theorem zi5 : za1 44 := enters_of func44 (by kernel_rfl) rfl
theorem ziq : za1 45 := enters_of func45 (by kernel_rfl) rfl
theorem zi6 : za1 47 := enters_of func47 (by kernel_rfl) rfl
theorem zi7 : za1 46 := enters_of func46 (by kernel_rfl) rfl
def znn : List Nat := [43,44,45,46,46,47,46]
section
variable {base g b : Nat}{F G F1 G1 : Nat → Prop}{m : SM}{ex : ExD}{w : World}
theorem zpb (h : MA base g b F G m ex w)(x : ID) : Calls prog 46 #[.pointer (some ⟨b,0,none⟩),.agg x.cells.toArray] w (zky base g b G ex w m) := by
 have hbl := (Below.refl w.heap.size w).alloc (ztn _) (.cells x.cells.toArray 47);have HG := Hd (MG.of_below h hbl)
 clear h hbl;go_enter func46,ntmps46;go_wp2;go_end0;exact ⟨rfl,_,_,HG.out⟩
theorem zpc (h : MA base g b F G m ex w)(x : ID)(hx : x.wf)(hm : ze8 x = true)(hlt : m.evs.length < 64)(he : m.err = 0) :
  ∃ f,znn[x.kind.toNat]? = some f ∧ za1 f ∧ Calls prog f #[.pointer (some ⟨b,0,none⟩),.agg x.cells.toArray] w (zky base g b G ex w (m.step x)) := by
 have M := zcC hm;have hk := M.kind;have hd := M.dst;have hs := M.src;have key : m.step x = if x.kind = 0 then m.alu x else if x.kind = 1 then m.load x else if x.kind = 2 then m.store x else if x.kind = 5 then m.call x else m := by
  unfold SM.step;rw [if_neg (by rw [he]; simp)]
 rw [key]
 by_cases k0 : x.kind = 0
 ·rw [k0,if_pos rfl]
  have := M.alu k0;exact ⟨_,rfl,zk7,zp3 h x hx hd (fun _ => hs) (by omega)⟩
 by_cases k1 : x.kind = 1
 ·rw [k1,if_neg (by decide),if_pos rfl]
  have := M.size (.inl k1);exact ⟨_,rfl,zi5,znP h x hx hd hs (by omega) hlt⟩
 by_cases k2 : x.kind = 2
 ·rw [k2,if_neg (by decide),if_neg (by decide),if_pos rfl]
  have := M.size (.inr k2);exact ⟨_,rfl,ziq,zlr h x hx hd hs (by omega) hlt⟩
 by_cases k5 : x.kind = 5
 ·rw [k5,if_neg (by decide),if_neg (by decide),if_neg (by decide),if_pos rfl]
  exact ⟨_,rfl,zi6,znR h x hx hlt⟩
 rw [if_neg k0,if_neg k1,if_neg k2,if_neg k5];have hr : x.kind = 3 ∨ x.kind = 4 ∨ x.kind = 6 := by omega
 rcases hr with e | e | e <;> rw [e] <;> exact ⟨_,rfl,zi7,zpb h x⟩
theorem zpd (h : MA base g b F G m ex w)(x : ID)(hx : x.wf)(hm : ze8 x = true){An : Option Addr}{nn cn : Nat}{nx : List Int}(hn : zbk w G (.slice An nn cn) nx)(h1 : x.kind ≠ 6 → 1 ≤ nn)(h2 : x.kind = 3 → nn = 2) :
  Calls prog 48 #[.pointer (some ⟨b,0,none⟩),.agg x.cells.toArray,.slice An nn cn] w (zky base g b G (m.ends x nx).2 w (m.ends x nx).1) := by
 have M := zcC hm
 by_cases k6 : x.kind = 6
 ·exact znT h x k6 _ nx
 by_cases k3 : x.kind = 3
 ·have hnn := h2 k3
  by_cases he : nx.getD 0 0 = nx.getD 1 0
  ·exact zlw h x k6 k3 hn (by omega) he
  ·have hc := M.cond k3
   by_cases ho : x.op = 10
   ·exact znN h x hx k3 ho M.dst (fun _ => M.src) (by omega) hn (by omega) he
   ·exact zp2 h x hx k3 ho M.dst (fun _ => M.src) (by omega) hn (by omega) he
 ·exact znU h x k6 k3 hn (by have := h1 k6; omega)
end
end
section
def zcF (regs : List Int)(es : Value)(ex : ExD) : List Value := rgC regs ++ [es,.int .i8 ex.kind,.int .i64 ex.v,.int .i64 ex.tgt,.int .i64 ex.els]
theorem zpU (g : Nat)(regs : List Int)(es : Value)(ex : ExD)(er : Int) : mC g regs es ex er = .pointer (some ⟨g,0,none⟩) :: (zcF regs es ex ++ [.int .i64 er]) := by
 unfold mC zcF rgC;simp
theorem zb7 {regs : List Int}(h : regs.length = 11)(es : Value)(ex : ExD) : (zcF regs es ex).length = 16 := by unfold zcF rgC; simp; omega
theorem zdf {regs : List Int}{es : Value}(h : es.oneCell' = true)(ex : ExD) : ∀ u ∈ zcF regs es ex,u.oneCell' = true := by
 intro u hu;unfold zcF at hu
 rcases List.mem_append.1 hu with hu | hu
 ·exact zb9 _ _ hu
 ·simp only [ztM,zt5,or_false] at hu
  rcases hu with rfl | rfl | rfl | rfl | rfl
  ·exact h
  all_goals rfl
def zaq : List Value := zcF zan (.slice none 0 0) zaZ
theorem zbC : zaq.length = 16 := rfl
theorem zbQ : ∀ u ∈ zaq,u.oneCell' = true := zdf rfl _
theorem zeE : (prog.info? 65).map (·.size) = some 16 := by kernel_rfl
theorem zgY : ∀ w : World,(zeroValue 65).run prog w = .ok (.agg zaq.toArray) w := fun w => by kernel_rfl
theorem zeF (w : World) : (Instr.build 65 #[]).run prog w = .ok (.agg zaq.toArray) w := by kernel_rfl
theorem zno {regs : List Int}(h : regs.length = 11)(w : World) : (Instr.build 65 #[(0,.agg (rgC regs).toArray)]).run prog w = .ok (.agg (zcF regs (.slice none 0 0) zaZ).toArray) w := by
 match regs,h with
 | [a0,a1,a2,a3,a4,a5,a6,a7,a8,a9,a10],_ => exact run_build w 65 _ _ (by kernel_rfl)
theorem zk8 {regs : List Int}(h : regs.length = 11)(g : Nat)(w : World) : (Instr.build 114 #[(0,.pointer (some ⟨g,0,none⟩)),(1,.agg (zcF regs (.slice none 0 0) zaZ).toArray)]).run prog w = .ok (.agg (mC g regs (.slice none 0 0) zaZ 0).toArray) w := by
 match regs,h with
 | [a0,a1,a2,a3,a4,a5,a6,a7,a8,a9,a10],_ => exact run_build w 114 _ _ (by kernel_rfl)
def zgZ (b : Nat) : List Value := znn.map (zgu b)
theorem zpe {b f : Nat}{k : Nat}(h : znn[k]? = some f) : (zgZ b)[k]? = some (zgu b f) := by unfold zgZ; rw [ztw,h]; rfl
theorem sizK : (prog.info? 116).map (·.size) = some 7 := by kernel_rfl
theorem zi8 (b : Nat)(w : World) : (Instr.build 116 #[(0,zgu b 43),(1,zgu b 44),(2,zgu b 45),(3,zgu b 46),(4,zgu b 46),(5,zgu b 47),(6,zgu b 46)]).run prog w = .ok (.agg (zgZ b).toArray) w := run_build w 116 _ _ (by kernel_rfl)
theorem zk9 (b : Nat) : ∀ u ∈ zgZ b,u.oneCell' = true := by
 intro u hu;obtain ⟨_,_,rfl⟩ := List.mem_map.1 hu
 rfl
theorem zsx : (prog.info? 44).map (·.size) = some 3 := by kernel_rfl
theorem znp (x : BD){s : Value}(h : s.oneCell' = true) : ∀ u ∈ bkC (x,s),u.oneCell' = true := by
 intro u hu;unfold bkC at hu;simp only [ztM,zt5,or_false] at hu
 rcases hu with rfl | rfl | rfl
 ·rfl
 ·rfl
 ·exact h
def okK (p : PS)(regs : List Int)(ok : Bool)(k : Nat) : Bool := ok && (regs.take k).all fun r => decide (0 ≤ r) && decide (r < (p.T.length : Int))
theorem zj9 {p : PS}{regs : List Int}{ok : Bool}{k : Nat}{r : Int}(h : regs[k]? = some r) : okK p regs ok (k + 1) = (okK p regs ok k && (decide (0 ≤ r) && decide (r < (p.T.length : Int)))) := by
 unfold okK;rw [ztF,h,List.all_append,Bool.and_assoc];simp
theorem znq {p : PS}{regs : List Int}{ok : Bool}(h : regs.length = 11) : okK p regs ok 11 = (ok && zqt p regs) := by
 unfold okK zqt;rw [ztN (by omega)]
def RunP (base g : Nat)(F : Nat → Prop)(w : World)(r : zqs)(e : Ending)(w' : World) : Prop :=
 ∃ es F',e = .returned (.tuple #[.agg (zcF r.regs es r.ex).toArray,.int .i64 r.err]) ∧ PG base g F w F' r.p w' ∧ zbt w' (fun k => F' k ∨ k < w.heap.size) es r.evs ∧ es.oneCell' = true
theorem zi9 {p : PS}{c : Int}{l : List ID}{block : Int}{regs : List Int}(h : (zdj c l).2 ≠ 0) : zgn p c l block regs = ⟨p,zan,[],zaZ,(zdj c l).2⟩ := by unfold zgn; rw [if_pos h]
theorem zja {p : PS}{c : Int}{l : List ID}{block : Int}{regs : List Int}(h : (zdj c l).2 = 0)(h2 : zgr p l block regs = false) : zgn p c l block regs = ⟨p,zan,[],zaZ,2⟩ := by unfold zgn; rw [if_neg (by rw [h]; simp),if_pos h2]
theorem zpV {p : PS}{c : Int}{l : List ID}{block : Int}{regs : List Int}(h : (zdj c l).2 = 0)(h2 : zgr p l block regs = true) : zgn p c l block regs =
  if (goV p l block regs).err ≠ 0 then ⟨(goV p l block regs).p,zan,[],zaZ,(goV p l block regs).err⟩
  else if ((goV p l block regs).ends (l.getD ((za2 l block).upto - 1).toNat zc0) (za2 l block).next).1.err ≠ 0 then ⟨((goV p l block regs).ends (l.getD ((za2 l block).upto - 1).toNat zc0) (za2 l block).next).1.p,zan,[],zaZ,((goV p l block regs).ends (l.getD ((za2 l block).upto - 1).toNat zc0) (za2 l block).next).1.err⟩
  else ⟨((goV p l block regs).ends (l.getD ((za2 l block).upto - 1).toNat zc0) (za2 l block).next).1.p,((goV p l block regs).ends (l.getD ((za2 l block).upto - 1).toNat zc0) (za2 l block).next).1.regs,((goV p l block regs).ends (l.getD ((za2 l block).upto - 1).toNat zc0) (za2 l block).next).1.evs,((goV p l block regs).ends (l.getD ((za2 l block).upto - 1).toNat zc0) (za2 l block).next).2,0⟩ := by
 unfold zgn;rw [if_neg (by rw [h]; simp),if_neg (by rw [h2]; simp)]
theorem zfj {P : Program}{ops : Array Oper}{rest : List Oper}{o : Oper}{a : Act}{w : World}{Q : Exit → Act → World → Prop}(hgd : o.guard = none)(t : TypeId)(fs : Array (Nat × Operand))(ho : o.op = .build t fs)(vs : Array (Nat × Value))(v : Value)(hx : (fs.map fun (i,x) => (i,a.eval x)) = vs)
  (hr : ∀ w,(Instr.build t vs).run P w = .ok v w) (h : wpList P ops Q rest (a.put o.dst v) w) : wpList P ops Q (o :: rest) a w :=
 wpList_plain hgd fun _ hK => by
  unfold Oper.wp execOp;simp only [ho,hx,Sem.run_bind,hr,Sem.run_pure,Result.andThen_ok];exact hK _ _ h
/-! ### the machine made, and done -/
section
variable {base g b : Nat}{F F' G' : Nat → Prop}{p : PS}{regs : List Int}{m : SM}{ex : ExD}{w w1 w2 : World}
theorem MA.start (h : zam w base F g p)(hB : Blk w b 114 (mC g regs (.slice none 0 0) zaZ 0).toArray)(hb : base ≤ b)(hF : ¬ F b)(hl : regs.length = 11)(hr : ∀ r ∈ regs,I64 r) : MA base g b F (fun k => F k ∨ k = b) (SM.mk p regs [] 0) zaZ w where
 pool := h
 box := ⟨.slice none 0 0,[],hB,⟨rfl,.inl ⟨rfl,rfl⟩⟩,rfl,by simp,fun k e => by cases e⟩
 nb := ⟨hF,.inr rfl⟩
 sub := fun k q => .inl q
 low := fun k q => q.elim (fun q => h.fb k q) (fun e => by subst e; exact ⟨hb,hB.lt⟩)
 len := hl
 rng := hr
 few := by simp
theorem MG.pgo (h : PG base g F w F p w1)(k : MG base g b (fun c => F c ∨ c = b) w1 F' G' m ex w2)(hb : w.heap.size ≤ b) : PG base g F w F' m.p w2 :=
 ⟨k.at_.pool,h.chg.trans k.chg (fun c q => q.elim .inl (fun e => .inr (e ▸ hb))),fun c q => (k.new c (k.at_.sub c q)).elim (fun q => q.elim .inl (fun e => .inr (e ▸ hb))) (fun e => .inr (zto h.chg.size e))⟩
theorem MA.out (h : MA base g b F' G' m ex w2) : ∃ es,Blk w2 b 114 (mC g m.regs es ex m.err).toArray ∧ zbt w2 (fun k => F' k ∨ k ≤ b) es m.evs ∧ es.oneCell' = true := by
 obtain ⟨es,q,h1,h2,h3,h4,h5⟩ := h.box;obtain ⟨A,c,e,hc,hR⟩ := za5.of_own (F := fun k => F' k ∨ k ≤ b) h2 (fun k hk q => q.elim (h5 k hk).2.1 (fun e => by have := (zaQ h2 k hk).1; omega));refine ⟨es,h1,⟨A,c,q,e,hc,h3,hR,fun p hp => ⟨(h4 p hp).1,(h4 p hp).2.chg (H := fun _ => False) (Chg.refl _ w2) (fun _ q => q.elim) (fun k q => .inl (q.elim (fun q => .inl (h.sub k q)) .inr))⟩⟩,?_⟩;rw [e]
 rfl
end
/-! ### a program apart from what may yet change -/
def ze9 (w : World)(F : Nat → Prop)(A : Option Addr)(n : Nat)(l : List ID) : Prop := l.length = n ∧ (∀ x ∈ l,x.wf) ∧ za5 w F 9 A n (l.flatMap ID.cells)
section
variable {w w' : World}{F G H : Nat → Prop}{A : Option Addr}{n : Nat}{l : List ID}
theorem ze9.ins (h : ze9 w F A n l) : zcJ w w.heap.size A n l := ⟨h.1,h.2.1,h.2.2.reads⟩
theorem ze9.chg (h : ze9 w F A n l)(hc : Chg H w w')(hH : ∀ b,H b → F b ∨ w.heap.size ≤ b)(hG : ∀ b,G b → F b ∨ w.heap.size ≤ b) : ze9 w' G A n l := ⟨h.1,h.2.1,h.2.2.chg hc hH hG⟩
theorem ze9.step (h : ze9 w F A n l)(hb : Below w.heap.size w w') : ze9 w' F A n l := h.chg (Chg.of_below hb) (fun k q => .inr q) (fun k q => .inl q)
theorem ze9.of_ins {B : Nat}(h : zcJ w B A n l)(hB : B ≤ w.heap.size)(hF : ∀ k,F k → B ≤ k) : ze9 w F A n l := ⟨h.1,h.2.1,h.2.2.1,fun hn => by
 obtain ⟨ad,e,hb,hc⟩ := h.2.2.2 hn;exact ⟨ad,e,by omega,fun q => by have := hF _ q; omega,hc⟩⟩
theorem ze9.at_ {k : Nat}(h : ze9 w F A n l)(hk : k < n) : ∃ ad x,A = some ad ∧ ad.block < w.heap.size ∧ ¬ F ad.block ∧ l[k]? = some x ∧ x.wf ∧ ∀ j u,x.cells[j]? = some u → w.cell? ((ad.add (k * 9)).add j) = some u := by
 obtain ⟨ad,e,hb,hf,hc⟩ := h.2.2.2 (by omega);have hkl : k < l.length := by have := h.1; omega
 have hx : l[k]? = some l[k] := ztq hkl;refine ⟨ad,l[k],e,hb,hf,hx,h.2.1 _ (ztU _),fun j u hu => ?_⟩;rw [za0];exact hc _ u (ze7 ID.cells 9 l (fun z hz => rfl) k j _ u hx hu)
theorem za5.cut {size k c : Nat}{xs : List Value}(h : za5 w F size A n xs)(hk : k ≤ n)(hc : n ≤ c) : za5 w F size (if c = k then A else A.map (·.add (k * size))) (n - k) (xs.drop (k * size)) := by
 refine ⟨by rw [List.length_drop,h.1,Nat.sub_mul],fun hn => ?_⟩;obtain ⟨ad,rfl,hb,hf,hcell⟩ := h.2 (by omega);rw [if_neg (by omega)];refine ⟨ad.add (k * size),rfl,by rw [zaz]; exact hb,by rw [zaz]; exact hf,fun j u hu => ?_⟩;rw [za0];exact hcell _ u (by rw [← hu,zt4])
theorem za5.take_g {size m : Nat}{xs : List Value}(h : za5 w F size A n xs)(hm : m ≤ n) : za5 w F size A m (xs.take (m * size)) := by
 refine ⟨by rw [ztW,h.1]; exact Nat.min_eq_left (Nat.mul_le_mul_right _ hm),fun hn => ?_⟩;obtain ⟨ad,e,hb,hf,hc⟩ := h.2 (by omega);refine ⟨ad,e,hb,hf,fun j u hu => hc j u ?_⟩;rw [← hu,zud];have := (ztt.1 hu).1;rw [ztW] at this;rw [if_pos (by omega)]
end
theorem zgv {P : Program}{w : World}{F : Nat → Prop}{ops : Array Oper}{rest : List Oper}{o : Oper}{a : Act}{Q : Exit → Act → World → Prop}(hgd : o.guard = none)(t e : TypeId)(x y z : Operand)(ho : o.op = .slice t x (some y) (some z) none)
  (ht : P.underlying t = some (.slice e)) (size : Nat) (hi : (P.info? e).map (·.size) = some size) (A : Option Addr) (n c l h : Nat) (kd ke : IntKind) (hx : a.eval x = .slice A n c) (hy : a.eval y = .int kd (l : Int)) (hz : a.eval z = .int ke (h : Int)) (hl : l ≤ h) (hh : h ≤ n) (hc : n ≤ c)
  (xs : List Value) (hr : za5 w F size A n xs)
  (hk : ∀ A',za5 w F size A' (h - l) ((xs.drop (l * size)).take ((h - l) * size)) → wpList P ops Q rest (a.put o.dst (.slice A' (h - l) (c - l))) w) : wpList P ops Q (o :: rest) a w :=
 wpList_plain hgd fun _ hK => by
  unfold Oper.wp execOp;have hte : P.underlying t = some (.slice (P.elem t)) := by rw [zm8 ht]; exact ht
  cases hq : P.info? e with
  | none => simp [hq] at hi
  | some i =>
   have hs : i.size = size := by simpa [hq] using hi
   have hrun : (Instr.sliceAt t (.slice A n c) (some (.int kd (l : Int))) (some (.int ke (h : Int))) none).run P w = .ok (.slice (if c = l then A else A.map (·.add (l * size))) (h - l) (c - l)) w := by
    rw [run_sliceAt_slice w t _ _ _ _ hte,run_slice_lh w t A n c hte kd ke (l : Int) (h : Int) (by omega) (by omega) (by omega),zm8 ht];simp [sizeOf,typeInfo,hq,hs,Go.sliced,Sem.run_bind]
   simp only [ho,hx,hy,hz,Option.map_some,Option.map_none,Sem.run_bind,hrun,Sem.run_pure,Result.andThen_ok];exact hK _ _ (hk _ ((hr.cut (by omega) hc).take_g (by omega)))
/-! ### a part of the program -/
theorem zir {α β : Type}(f : α → List β)(m : Nat) : ∀ (l : List α) (k : Nat),(∀ x ∈ l,(f x).length = m) → (l.flatMap f).drop (k * m) = (l.drop k).flatMap f
 | l,0,_ => by simp
 | [],k + 1,_ => by simp
 | x :: r,k + 1,h => by
  have hx := h x (by simp);rw [zuf,List.drop_succ_cons,← zir f m r k (fun y hy => h y (by simp [hy])),show (k + 1) * m = m + k * m by rw [ztR]; omega,← zt7,List.drop_left' hx]
theorem zg0 {α β : Type}(f : α → List β)(m : Nat) : ∀ (l : List α) (k : Nat),(∀ x ∈ l,(f x).length = m) → (l.flatMap f).take (k * m) = (l.take k).flatMap f
 | l,0,_ => by simp
 | [],k + 1,_ => by simp
 | x :: r,k + 1,h => by
  have hx := h x (by simp);rw [zuf,List.take_succ_cons,zuf,← zg0 f m r k (fun y hy => h y (by simp [hy])),show (k + 1) * m = m + k * m by rw [ztR]; omega,List.take_add,List.take_left' hx,List.drop_left' hx]
theorem zpf {w : World}{F : Nat → Prop}{n : Nat}{A A' : Option Addr}{l : List ID}{f t : Nat}(h : ze9 w F A n l)(hft : f ≤ t)(ht : t ≤ n)(hr : za5 w F 9 A' (t - f) (((l.flatMap ID.cells).drop (f * 9)).take ((t - f) * 9))) : ze9 w F A' (t - f) ((l.drop f).take (t - f)) := by
 rw [zir ID.cells 9 l f (fun _ _ => rfl),zg0 ID.cells 9 _ (t - f) (fun _ _ => rfl)] at hr;exact ⟨by rw [ztW,List.length_drop,h.1]; omega,fun x hx => h.2.1 x (List.mem_of_mem_drop (zuk hx)),hr⟩
end
section
section
variable {base g b : Nat}{F G F1 G1 : Nat → Prop}{m : SM}{ex : ExD}{w : World}
theorem zla {p : PS}(hw : WfP p)(hr : ∀ t ∈ p.T,t.wf){t : TD}(ht : t.wf) : putR (putR p t).1 t = putR p t := by
 rcases za8 p t with ⟨h1,_⟩ | ⟨_,_,_,_,_,h2⟩
 ·show putR (zcm p t) t = putR p t
  rw [h1]
 ·have h0 : (putR p t).2.2 = 0 := by show (zcP p t).2 = 0; rw [h2]
  rw [zgE (p := p) (q := (putR p t).1) (zb0 hw hr ht).1 h0 (Ext.refl _),← h0]
def mjS (e z : SM)(n : Int) : Nat → SM
 | 0 => e
 | j + 1 => ⟨z.p,zlu z.regs n (j + 1),z.evs,z.err⟩
theorem zsp {e : SM}(hw : WfP e.p)(hr : ∀ t ∈ e.p.T,t.wf)(j : Nat) : (mjS e (e.num 0).1 (e.num 0).2 j).num 0 = (⟨(e.num 0).1.p,zlu (e.num 0).1.regs (e.num 0).2 j,(e.num 0).1.evs,(e.num 0).1.err⟩,(e.num 0).2) := by
 cases j with
 | zero => rfl
 | succ j =>
  have h := zla hw hr (zaP (wrap_u64 0));show SM.num ⟨(putR e.p (zaf (IntKind.u64.wrap 0))).1,_,e.evs,if e.err = 0 then (putR e.p (zaf (IntKind.u64.wrap 0))).2.2 else e.err⟩ 0 = _
  unfold SM.num SM.keep;dsimp only;rw [h]
  congr 2
  by_cases h1 : e.err = 0
  ·by_cases h2 : (putR e.p (zaf (IntKind.u64.wrap 0))).2.2 = 0 <;> simp [h1,h2]
  ·simp [h1]
theorem zis (b : Nat){i : Int}{d : Nat}(hi : i = (d : Int))(hd : d < 11)(w : World) : (Instr.indexAt 57 (.pointer (some ⟨b,1,none⟩)) (.int .i64 i)).run prog w = .ok (.pointer (some ⟨b,1 + d,none⟩)) w := by
 subst hi;go_simp;intro h;omega
theorem znr {w : World}{a b : Addr}{u v : Value}(h : b ≠ a)(hc : w.cell? b = some v) : (w.setCell a u).cell? b = some v := by
 rw [World.cell?_setCell_other w a b u (fun e => h (by first | exact e | exact e.symm))];exact hc
theorem zns (n i : Int)(W : World) : (Instr.build 72 #[(0,.int .i8 2),(4,.int .i64 i),(3,.int .i64 n)]).run prog W = .ok (.agg (evC (⟨2,0,0,n,i,[]⟩,.slice none 0 0)).toArray) W := run_build W 72 _ _ (by kernel_rfl)
theorem zqX (x : Int) : ∀ u ∈ [Value.int .i64 x],u.oneCell' = true := by
 intro u hu;simp only [ztM,zt5,or_false] at hu;subst hu
 rfl
theorem ztk : (prog.info? 28).map (·.size) = some 1 := by kernel_rfl
theorem zlb {rs : List Int}(hl : rs.length = 11){j : Nat}(hj : j + 1 < 11) : ((rs.drop 1).take j).map (Value.int .i64) ++ [.int .i64 (rs.getD (j + 1) 0)] = ((rs.drop 1).take (j + 1)).map (Value.int .i64) := by
 have e : rs[1 + j]? = some (rs.getD (j + 1) 0) := by
  rw [Nat.add_comm 1 j,zts,ztq (by omega)]
  rfl
 rw [ztF,List.map_append,zt4,e]
 rfl
theorem ztl {w : World}{B k : Nat}{sv : Value}{regs : List Int}(h : w.ownsRow B 3 1 sv k (((regs.drop 1).take k).map (Value.int .i64)))(hG : ∀ c,G c → c < B)(hb : b < B)(hr : regs.length = 11 ∧ (∀ r ∈ regs,I64 r) ∧ k ≤ 5) : zbk w (Uq G b) sv ((regs.drop 1).take k) := by
 have hl : ((regs.drop 1).take k).length = k := by simp; omega
 obtain ⟨A,c,e,hc,hR⟩ := za5.of_own (F := Uq G b) h (fun c hc q => by
  have := (zaQ h c hc).1
  rcases q with q | q
  ·have := hG c q; omega
  ·omega)
 exact ⟨A,c,by rw [hl]; exact e,by rw [hl]; exact hc,by rw [hl]; exact hR,fun x hx => hr.2.1 x (List.mem_of_mem_drop (zuk hx)),by omega⟩
theorem znt (h : DA base g b F G m ex w)(x : ID)(hk : x.kind = 5)(hx : x.wf)(hlt : m.evs.length < 64) : Calls prog 50 #[.pointer (some ⟨b,0,none⟩),.agg x.cells.toArray] w (znC base g b G ex w (m.call x)) := by
 obtain ⟨iA,hiA,hzA,hsA,hbA⟩ := info_parts zsv;have IA := Hd (ztp hiA (ztp hzA (ztp hsA hbA)))
 clear hiA hzA hsA hbA;obtain ⟨iN,hiA,hzA,hsA,hbA⟩ := info_parts zot;have IN := Hd (ztp hiA (ztp hzA (ztp hsA hbA)))
 clear hiA hzA hsA hbA;have hb0 : base ≤ w.heap.size := zto (h.low b h.nb.2).1 (ztu h.lt);have hbl := ((Below.refl w.heap.size w).alloc (ztn _) (.cells x.cells.toArray 47));have HG := Hd (DG.of_below h hbl)
 have HB0 := Hd (show Blk (w.alloc (.cells x.cells.toArray 47)) w.heap.size 47 x.cells.toArray from Blk.new w 47 x.cells.toArray)
 have HLOW := Hd (fun (e : G w.heap.size) => by have := (h.low _ e).2; omega : ¬ G w.heap.size)
 obtain ⟨v,hv⟩ : ∃ v,m.next 64 = v := ⟨_,rfl⟩
 have HV := Hd (fun (W : World) (F G : Nat → Prop) (hW : DA base g b F G m ex W) => by have := zhF hW 64 (by unfold I8; omega); rw [hv] at this; exact this)
 have HRQ := Hd (show v.1.regs = m.regs by rw [← hv]; rfl)
 have HLT := Hd (show v.1.evs.length < 64 by rw [← hv]; exact hlt)
 have hab := zkd x.imm;obtain ⟨k,hkk⟩ : ∃ k : Nat,zcG x.imm = (k : Int) := ⟨(zcG x.imm).toNat,by omega⟩;have hk5 : k ≤ 5 := by omega
 have HA := Hd (fun (W : World) => by have := zlX x.imm W; rw [hkk] at this; exact this)
 have HREG := Hd (ztp h.len (ztp h.rng hk5))
 obtain ⟨x9,hx9⟩ : ∃ y : EvD,y = ⟨2,0,0,v.2,x.imm,(m.regs.drop 1).take k⟩ := ⟨_,rfl⟩;obtain ⟨e0,he0⟩ : ∃ e0 : SM,e0 = ⟨v.1.p,v.1.regs.set 0 v.2,v.1.evs ++ [x9],v.1.err⟩ := ⟨_,rfl⟩;obtain ⟨z,hz⟩ : ∃ z,SM.num e0 0 = z := ⟨_,rfl⟩;have HC := Hd (fun (W : World) (F G : Nat → Prop) (j : Nat) (hW : DA base g b F G (mjS e0 z.1 z.2 j) ex W) => by
  have h1 : WfP e0.p ∧ ∀ t ∈ e0.p.T,t.wf := by
   rw [he0,← hv];exact zb0 h.pool.wf h.pool.rng (zed (n := 38 + 3 * (zat m.evs : Int)) (by
    have h2 : zat m.evs ≤ m.evs.length := by unfold zat; exact List.length_filter_le _ _
    unfold U64;omega) (by unfold I8; omega))
  have := zet hW 0 zbF;rw [← hz,zsp h1.1 h1.2 j,hz] at this;exact this)
 have HNZ := Hd (show I64 z.2 by
  rw [← hz,he0,← hv];exact zaY (zb0 h.pool.wf h.pool.rng (zed (n := 38 + 3 * (zat m.evs : Int)) (by
    have h2 : zat m.evs ≤ m.evs.length := by unfold zat; exact List.length_filter_le _ _
    unfold U64;omega) (by unfold I8; omega))).1 _)
 have HNX := Hd (show m.call x = mjS e0 z.1 z.2 5 by
  unfold SM.call;dsimp only;rw [hv,hkk,ztx];show (let q := SM.num ⟨v.1.p,v.1.regs.set 0 v.2,v.1.evs ++ [⟨2,0,0,v.2,x.imm,(m.regs.drop 1).take k⟩],v.1.err⟩ 0; ({ q.1 with regs := zgq q.1.regs q.2 } : SM)) = _
  dsimp only;rw [← hx9,← he0,hz]
  rfl)
 obtain ⟨mv,nv⟩ := v;obtain ⟨mz,nz⟩ := z;dsimp only at HV HRQ HLT HC HNZ HNX hx9 he0;have HX := Hd hx
 have HX9 := Hd hx9
 have HE0 := Hd he0
 have HKD := Hd hk
 have HM := Hd (DG.refl HG.out.at_)
 clear h hx hv hlt hb0 hbl hab hkk hz hk hx9 he0;go_enter func50,ntmps50;go_upto_region 1 with fail
 generalize (w.alloc (.cells x.cells.toArray 47)) = Wd at HG HM HB0 ⊢;generalize w.heap.size = bx at HB0 HLOW ⊢;have b0 : Wd.cell? ⟨bx,0,none⟩ = some (.int .i8 5) := by rw [← HKD.out]; exact HB0.out.cell 0
 go_upto_region 14 with fail
 go_wp2_with fail
 refine (HV.out _ _ _ HM.out.at_).mono ?_;rintro e w2 ⟨rfl,hi1,F1,G1,hm1⟩;replace HM := Hd (HM.out.trans hm1)
 have HNI := Hd hi1
 clear hm1 hi1 b0;have HBX := Hd (HM.out.blk HB0.out HLOW.out).1
 have HB2 := Hd (show b < w2.heap.size from HM.out.at_.lt)
 have b8 : w2.cell? ⟨bx,8,none⟩ = some (.int .i64 x.imm) := HBX.out.cell 8;have qb := fun (W : World) => zns nv x.imm W
 go_upto_region 16 with (first
  | (refine zag rfl 72 (.tmp 9) (.tmp 135) rfl _ (evC (⟨2,0,0,nv,x.imm,[]⟩,.slice none 0 0)) (.agg (evC (⟨2,0,0,nv,x.imm,[]⟩,.slice none 0 0)).toArray) (by rfl) (by rfl) rfl zqV (by rfl) (EvD.one rfl) ?_
     intro w3 X3 L3 S3;have HX3 := Hd X3
     have HL3 := Hd L3
     clear X3 L3 S3)
  | fail)
 obtain ⟨b9,hb9⟩ : ∃ q,w2.heap.size = q := ⟨_,rfl⟩;rw [hb9] at HX3 HB2 ⊢;have HB9 := Hd hb9
 clear b8 qb hb9;have HW3 := Hd (show Blk w3 b9 72 (evC (⟨2,0,0,nv,x.imm,[]⟩,.slice none 0 0)).toArray ∧ w3.ownsRow (b9 + 1) 3 1 (.slice none 0 0) 0 (((m.regs.drop 1).take 0).map (Value.int .i64)) ∧ Below w2.heap.size w2 w3 from ⟨HX3.out,⟨rfl,.inl ⟨rfl,rfl⟩⟩,HL3.out⟩)
 clear HX3 HL3;go_wp2_with fail
 go_loopw [10] (fun i wr => ∃ (j : Nat) (sv : Value),j ≤ k ∧ i = .int .i64 (1 + j) ∧ Hid (Blk wr b9 72 (evC (⟨2,0,0,nv,x.imm,[]⟩,sv)).toArray ∧ wr.ownsRow (b9 + 1) 3 1 sv j (((m.regs.drop 1).take j).map (Value.int .i64)) ∧ Below w2.heap.size w2 wr)) (fun i _ => (7 - intOf i).toNat)
 case atStart => exact ⟨0,.slice none 0 0,by omega,by go_num,HW3.out⟩
 case round =>
  obtain ⟨j,sv,hjk,rfl,HX1⟩ := hrel
  rename World => wr
  have b8 : wr.cell? ⟨bx,8,none⟩ = some (.int .i64 x.imm) := (HBX.out.below HX1.out.2.2 HBX.out.lt).cell 8;go_wp2_with fail
  refine (HA.out _).mono ?_;rintro e w' ⟨rfl,rfl⟩;clear b8;obtain ⟨j1,hj1⟩ : ∃ q,j + 1 = q := ⟨_,rfl⟩;have hji : (1 : Int) + (j : Int) = (j1 : Int) := by omega
  rw [hji]
  by_cases hlt : j1 ≤ k
  ·have HJ := Hd hj1
   have HO := Hd HX1.out.2.1
   have HBL := Hd (show b < b9 from HB2.out)
   obtain ⟨A5,c5,rfl,_,_⟩ := za5.of_own (F := fun _ => False) HO.out (fun _ _ q => q);go_upto_region 19 with fail
   refine zac (fun w' => w'.cell? ⟨b,1 + j1,none⟩ = some (.int .i64 (m.regs.getD j1 0))) (fun w' => w'.cell? ⟨b9,5,none⟩ = some (.slice A5 j c5)) [12] (by kernel_rfl) ?_;have HMR := Hd (show DA base g b F1 G1 mv ex wr from HM.out.at_.below HX1.out.2.2)
   have HT := Hd (show wr.drew.cell? ⟨b,1 + j1,none⟩ = some (.int .i64 (m.regs.getD j1 0)) from HRQ.out ▸ HMR.out.creg (d := j1) (by omega))
   have HS := Hd (show wr.drew.cell? ⟨b9,5,none⟩ = some (.slice A5 j c5) from HX1.out.1.cell 5)
   have HEB := Hd (show Blk wr.drew b9 72 (evC (⟨2,0,0,nv,x.imm,[]⟩,.slice A5 j c5)).toArray from HX1.out.1)
   replace HO := Hd (show wr.drew.ownsRow (b9 + 1) 3 1 (.slice A5 j c5) j (((m.regs.drop 1).take j).map (Value.int .i64)) from HO.out)
   have HBW := Hd (show Below w2.heap.size w2 wr.drew from HX1.out.2.2.drew)
   have HLT1 := Hd (show b < wr.drew.heap.size ∧ b9 < wr.drew.heap.size from ⟨HMR.out.lt,HEB.out.lt⟩)
   generalize wr.drew = Wd2 at HT HS HEB HO HBW HLT1 ⊢;clear HX1 hji HMR;refine ef 0 ⟨b9,0,none⟩ ⟨b9,5,none⟩ (bS HT HS) ?_;refine el true 1 ⟨b9,5,none⟩ (.slice A5 j c5) underlying28 (fun w hS => (hS.2 rfl)) (bS HT HS) ?_;refine em 2 (.pointer (some ⟨b,0,none⟩)) (bS HT HS) ?_;refine em 3 (.int .i64 (j1 : Int)) (bS HT HS) ?_;refine ez 4 ⟨b,0,none⟩ (bS HT HS) ?_;refine ef 5 ⟨b,0,none⟩ ⟨b,1,none⟩ (bS HT HS) ?_;refine ef 6 ⟨b,1,none⟩ ⟨b,1,none⟩ (bS HT HS) ?_;refine ej 7 (.pointer (some ⟨b,1,none⟩)) (.int .i64 (j1 : Int)) (.pointer (some ⟨b,1 + j1,none⟩)) (zis b rfl (by omega)) (bS HT HS) ?_;refine el false 8 ⟨b,1 + j1,none⟩ (.int .i64 (m.regs.getD j1 0)) underlying3 (fun w hS => hS.1) (bS HT HS) ?_;refine zaN 9 (by kernel_rfl) (zar.slice_one 9 (some 152) _ 3 _ iN _ (.int .i64 (m.regs.getD j1 0)) rfl (by rfl) underlying28 IN.out.1 IN.out.2.1 (by rw [IN.out.2.2.1]; decide) (by rw [IN.out.2.2.1]; decide) (by rfl) (by rw [IN.out.2.2.1]; rfl) ?_);intro wa ga hga Ba La;have HBA := Hd Ba
   have HLA := Hd La
   replace HT := Hd ((La.cell (by exact HLT1.out.1)).trans HT.out)
   replace HS := Hd ((La.cell (by exact HLT1.out.2)).trans HS.out)
   clear Ba La;refine ⟨.both HT.out HS.out,?_⟩;simp only [pt,pn,sL];refine zaN 10 (by kernel_rfl) (zar.append 10 (some 153) 28 3 _ _ (b9 + 1) iN _ 1 8 rfl (by rfl) underlying28 IN.out.1 IN.out.2.1 IN.out.2.2.1 IN.out.2.2.2 rfl (by omega) (.slice A5 j c5) j (((m.regs.drop 1).take j).map (Value.int .i64)) (by rfl) (zaG HO.out (fun k hk => HLA.out.block k (zaQ HO.out k hk).2)) _ (some ⟨ga,0,none⟩) 1 1 [.int .i64 (m.regs.getD j1 0)] (by rfl) (zbH HBA.out 1 1 rfl) (zqX _) (by unfold maxLen; omega) (by omega) (zto HLT1.out.2 HLA.out.size) ?_);intro es2 wb R2 G2 O2;have HR2 := Hd R2
   have HG2 := Hd ((za4 HLA.out (Value.ownBlock (.slice A5 j c5))).trans G2)
   replace HT := Hd ((World.cell?_of_block (a := ⟨b,1 + j1,none⟩) (G2.block b (zty HLT1.out.1 HLA.out.size) (fun e => by have := (zaQ HO.out _ e.symm).1; have := HBL.out; omega))).trans HT.out)
   replace HS := Hd ((World.cell?_of_block (a := ⟨b9,5,none⟩) (G2.block b9 (zty HLT1.out.2 HLA.out.size) (fun e => by have := (zaQ HO.out _ e.symm).1; omega))).trans HS.out)
   clear R2 G2 O2;refine ⟨.both HT.out HS.out,?_⟩;simp only [pt,pn,sL];refine ef 11 ⟨b9,0,none⟩ ⟨b9,5,none⟩ (bS HT HS) ?_;refine zaN 12 (by kernel_rfl) (zar.store_at 12 28 _ _ ⟨b9,5,none⟩ es2 _ rfl (by rfl) (by rfl) (by rfl) (zaE 28 b9 5 72 _ _ (HEB.out.grown HG2.out (fun e => by have := (zaQ HO.out _ e.symm).1; omega)) (by simp [evC]) ztk (zdO HR2.out) (zdP HR2.out)) (.after (znr (by have := HBL.out; intro e; injection e with e; omega) HT.out) (by kernel_rfl)) ?_);simp only [pt,pn,sL];refine zab (by kernel_rfl) ?_ _;have HN := Hd (show Blk (wb.setCell ⟨b9,5,none⟩ es2) b9 72 (evC (⟨2,0,0,nv,x.imm,[]⟩,es2)).toArray ∧ (wb.setCell ⟨b9,5,none⟩ es2).ownsRow (b9 + 1) 3 1 es2 j1 (((m.regs.drop 1).take j1).map (Value.int .i64)) ∧ Below w2.heap.size w2 (wb.setCell ⟨b9,5,none⟩ es2) from by
    have hs : Chg (fun b => b = b9) wb (wb.setCell ⟨b9,5,none⟩ es2) := zbs (b := b9) rfl _ rfl;have hg : ∀ q,(Value.slice A5 j c5).ownBlock = some q → b9 + 1 ≤ q := fun q e => (zaQ HO.out q e).1
    have hc1 : Chg (fun b => b9 + 1 ≤ b) Wd2 wb := Chg.of_grown HG2.out (fun q e => .inl (hg q e));refine ⟨?_,?_,?_⟩
    ·have := (hc1.blk HEB.out (by omega)).set_ 5 es2
     simpa [evC] using this
    ·have R := HR2.out
     rw [← HJ.out,← zlb HREG.out.1 (by have := HJ.out; omega)];refine hs.own ?_ (fun q e => by have := (zaQ R q e).1; omega);rw [HJ.out];rw [← HJ.out] at R;rw [HJ.out] at R;exact R
    ·have h9 := HB9.out
     exact (HBW.out.grown HG2.out (by have := HLT1.out.2; rw [h9]; omega) (fun q e => by have := hg q e; omega)).setCell (by show w2.heap.size ≤ b9; omega) _)
   have HES1 := Hd (zdP HR2.out)
   generalize wb.setCell ⟨b9,5,none⟩ es2 = ws at HN ⊢;clear HR2 HG2 HBA HLA HT HS HEB HO HBW HLT1;go_wp2_with fail
   go_roundw
   case measure => simp [intOf]; omega
   case rel => exact ⟨j1,es2,hlt,by go_num,HN.out⟩
  ·obtain rfl : j = k := by omega
   have HMX := Hd (HM.out.step HX1.out.2.2)
   have HLW := Hd (fun (e : G1 b9) => by have := (HM.out.at_.low b9 e).2; have := HB9.out; omega : ¬ G1 b9)
   have HSV := Hd (zdP HX1.out.2.1)
   have HB := Hd (show b < b9 from HB2.out)
   have HEB := Hd (fun (W : World) (q : Below wr.heap.size wr W) => (show Blk W b9 72 (evC (x9,sv)).toArray by
    have h1 := HX1.out.1.below q HX1.out.1.lt;rw [HX9.out];exact h1))
   have HG9 := Hd (fun c (z : G1 c) => (by have := (HM.out.at_.low c z).2; have := HB9.out; omega : c < b9 + 1))
   have HV1 := Hd (fun (W : World) (q : Below wr.heap.size wr W) => (show zbk W (Uq G1 b) sv x9.args by
    rw [HX9.out];exact ztl (zaG HX1.out.2.1 (fun c hc => q.block c (zaQ HX1.out.2.1 c hc).2)) HG9.out (by have := HB.out; omega) HREG.out))
   have HX1' := Hd (show x9.wf by rw [HX9.out]; exact ⟨by unfold I8; dsimp only; omega,by unfold I8; dsimp only; omega,zbF,HNI.out,HX.out.2.2.2.2.2.2.2⟩)
   replace HM := HMX;clear HMX HX1 hji HBX;go_upto_region 20 with fail
   have hdr := HM.out.step ((Below.refl _ _).drew);replace HM := Hd hdr
   clear hdr;obtain ⟨es,qe,c12,hBm,hown,hqe,hqw,hes⟩ := HM.out.at_.ces;obtain ⟨A,c,rfl,hAc,_⟩ := za5.of_own (F := fun _ => False) hown (fun _ _ q => q);refine zac (fun w' => Blk w' b9 72 (evC (x9,sv)).toArray) (fun w' => w'.cell? ⟨b,12,none⟩ = some (.slice A mv.evs.length c)) [12] (by kernel_rfl) ?_;have HCH := Hd (show Below wr.heap.size wr wr.drew from (Below.refl _ _).drew)
   generalize wr.drew = W3 at HM HCH c12 hBm hown hqw ⊢;have HT := Hd (show Blk W3 b9 72 (evC (x9,sv)).toArray from HEB.out W3 HCH.out)
   have HS := Hd c12
   have HBM := Hd hBm
   have HO := Hd hown
   have HQ := Hd hqe
   have HQW := Hd hqw
   have HES := Hd hes
   clear c12 hBm hown hqe hqw hes hAc;refine em 0 (.pointer (some ⟨b,0,none⟩)) (bS HT HS) ?_;refine em 1 (.pointer (some ⟨b,0,none⟩)) (bS HT HS) ?_;refine ez 2 ⟨b,0,none⟩ (bS HT HS) ?_;refine ef 3 ⟨b,0,none⟩ ⟨b,1,none⟩ (bS HT HS) ?_;refine ef 4 ⟨b,1,none⟩ ⟨b,12,none⟩ (bS HT HS) ?_;refine el true 5 ⟨b,12,none⟩ (.slice A mv.evs.length c) underlying61 (fun w hS => (hS.2 rfl)) (bS HT HS) ?_;refine eL false 6 ⟨b9,0,none⟩ (evC (x9,sv)) (fun w hS => zak hS.1) underlying72 zqV (bS HT HS) ?_;refine zaN 7 (by kernel_rfl) (zar.slice_one 7 (some 162) _ 72 _ iA _ (.agg (evC (x9,sv)).toArray) rfl (by rfl) underlying61 IA.out.1 IA.out.2.1 (by rw [IA.out.2.2.1]; decide) (by rw [IA.out.2.2.1]; decide) (by rfl) (by rw [IA.out.2.2.1]; rfl) ?_);intro wa ga hga Ba La;have HBA := Hd Ba
   have HLA := Hd La
   replace HT := Hd (HT.out.below La HT.out.lt)
   replace HS := Hd ((La.cell (by exact HBM.out.lt)).trans HS.out)
   clear Ba La;refine ⟨.both HT.out HS.out,?_⟩;simp only [pt,pn,sL];refine zaN 8 (by kernel_rfl) (zar.append 8 (some 163) 61 72 _ _ (b + 1) iA _ 6 56 rfl (by rfl) underlying61 IA.out.1 IA.out.2.1 IA.out.2.2.1 IA.out.2.2.2 rfl (by omega) (.slice A mv.evs.length c) mv.evs.length (qe.flatMap evC) (by rfl) (zaG HO.out (fun k hk => HLA.out.block k (zaQ HO.out k hk).2)) _ (some ⟨ga,0,none⟩) 1 1 (evC (x9,sv)) (by rfl) (zbH HBA.out 1 6 rfl) (EvD.one HSV.out) (by have := HLT.out; unfold maxLen; omega) (by have := HLT.out; omega) (zto HM.out.at_.lt HLA.out.size) ?_);intro es2 wb R2 G2 O2;have HR2 := Hd R2
   have HG2 := Hd ((za4 HLA.out (Value.ownBlock (.slice A mv.evs.length c))).trans G2)
   have HO2 := Hd (fun k (hk : es2.ownBlock = some k) => (O2.elim (fun e => .inl (e ▸ hk)) (fun e => .inr (by rw [e] at hk; injection hk with hk; rw [← hk]; exact HLA.out.size)) : (Value.slice A mv.evs.length c).ownBlock = some k ∨ W3.heap.size ≤ k))
   replace HT := Hd (HT.out.grown G2 (fun e => HLW.out (HES.out _ e.symm).1))
   replace HS := Hd ((World.cell?_of_block (a := ⟨b,12,none⟩) (G2.block b (zty HBM.out.lt HLA.out.size) (fun e => (HES.out _ e.symm).2.2 rfl))).trans HS.out)
   clear R2 G2 O2;refine ⟨.both HT.out HS.out,?_⟩;simp only [pt,pn,sL];refine ez 9 ⟨b,0,none⟩ (bS HT HS) ?_;refine ef 10 ⟨b,0,none⟩ ⟨b,1,none⟩ (bS HT HS) ?_;refine ef 11 ⟨b,1,none⟩ ⟨b,12,none⟩ (bS HT HS) ?_;refine zaN 12 (by kernel_rfl) (zar.store_at 12 61 _ _ ⟨b,12,none⟩ es2 _ rfl (by rfl) (by rfl) (by rfl) (zaE 61 b 12 120 _ _ (HBM.out.grown HG2.out (fun e => (HES.out _ e.symm).2.2 rfl)) (by rw [zt3,zco HM.out.at_.len]; decide) zsw (zdO HR2.out) (zdP HR2.out)) (.after (HT.out.far (fun e => HLW.out (e ▸ HM.out.at_.nb.2)) _) (by kernel_rfl)) ?_);simp only [pt,pn,sL];refine zab (by kernel_rfl) ?_ _;replace HM := Hd (HM.out.trans (HM.out.at_.push HBM.out HO.out HQ.out HQW.out HES.out HX1'.out (HV1.out _ HCH.out) HLT.out HR2.out HG2.out HO2.out))
   clear HT HS HBM HO HQ HQW HES HR2 HG2 HO2 HBA HLA HCH HEB HV1;have c1 := HM.out.at_.creg (d := 0) (by omega);have f1 := HM.out.at_.frozen (1 + 0);generalize wb.setCell ⟨b,12,none⟩ es2 = w5 at HM c1 f1 ⊢;go_upto_region 22 with fail
   have hset := HM.out.trans (HM.out.at_.setReg (d := 0) (by omega) HNI.out);have HM0 := Hd (show DG base g b G Wd _ _ (mjS e0 mz nz 0) ex (w5.setCell ⟨b,1 + 0,none⟩ (.int .i64 nv)) from by
    show DG base g b G Wd _ _ e0 ex _
    rw [HE0.out];exact hset)
   clear HM c1 f1 hset;generalize w5.setCell ⟨b,1 + 0,none⟩ (.int .i64 nv) = w6 at HM0 ⊢;go_wp2_with fail
   go_loopw [11] (fun i wr => ∃ j : Nat,j ≤ 5 ∧ i = .int .i64 ((j : Int) + 1) ∧ ∃ F' G',Hid (DG base g b G Wd F' G' (mjS e0 mz nz j) ex wr)) (fun i _ => 5 - ((intOf i).toNat - 1))
   case atStart => exact ⟨0,by omega,rfl,_,_,HM0.out⟩
   case round =>
    obtain ⟨j,hj,rfl,F',G',HM⟩ := hrel;obtain ⟨j1,hj1⟩ : ∃ j1,j + 1 = j1 := ⟨_,rfl⟩;have hji : (j : Int) + 1 = (j1 : Int) := by omega
    rw [hji]
    by_cases hlt : j1 ≤ 5
    ·have HJ := Hd (show j + 1 = j1 ∧ j1 < 11 from ⟨hj1,by omega⟩)
     go_upto_region 25 with fail
     refine zac (fun _ => True) (fun _ => True) [8] (by kernel_rfl) ?_
     rename World => wr
     replace HM := Hd (HM.out.step ((Below.refl _ _).drew))
     generalize wr.drew = Wl at HM ⊢;refine em 0 (.pointer (some ⟨b,0,none⟩)) (.both trivial trivial) ?_;refine em 1 (.int .i64 (j1 : Int)) (.both trivial trivial) ?_;refine em 2 (.pointer (some ⟨b,0,none⟩)) (.both trivial trivial) ?_;refine ez 4 ⟨b,0,none⟩ (.both trivial trivial) ?_;refine ef 5 ⟨b,0,none⟩ ⟨b,1,none⟩ (.both trivial trivial) ?_;refine ef 6 ⟨b,1,none⟩ ⟨b,1,none⟩ (.both trivial trivial) ?_;refine ec 3 (HC.out _ _ _ j HM.out.at_) ?_;rintro e wq ⟨rfl,_,Fq,Gq,hmq⟩;replace HM := Hd (HM.out.trans hmq)
     clear hmq;refine ek (.both trivial trivial) ?_;refine ej 7 (.pointer (some ⟨b,1,none⟩)) (.int .i64 (j1 : Int)) (.pointer (some ⟨b,1 + j1,none⟩)) (zis b rfl HJ.out.2) (.both trivial trivial) ?_;obtain ⟨es,qe,hBs,_⟩ := HM.out.at_.box;have HM2 := Hd (HM.out.trans (HM.out.at_.setReg (d := j1) HJ.out.2 HNZ.out))
     refine zaN 8 (by kernel_rfl) (zar.store_at 8 3 _ _ ⟨b,1 + j1,none⟩ (.int .i64 nz) _ rfl (by rfl) (by rfl) (by rfl) (zaE 3 b (1 + j1) 120 _ _ hBs (by rw [zt3,zco HM.out.at_.len]; have := HJ.out.2; omega) zrp rfl rfl) (.after trivial (by kernel_rfl)) ?_);clear hBs;simp only [pt,pn,sL];refine zab (by kernel_rfl) ?_ _;have HN := Hd (show DG base g b G Wd _ _ (mjS e0 mz nz j1) ex (wq.setCell ⟨b,1 + j1,none⟩ (.int .i64 nz)) from by
      have h2 := HM2.out;have hj2 := HJ.out.1;subst hj2;exact h2)
     clear HM HM2;generalize wq.setCell ⟨b,1 + j1,none⟩ (.int .i64 nz) = ws at HN ⊢;go_wp2_with fail
     go_roundw
     case measure => simp [intOf]; omega
     case rel => exact ⟨j1,hlt,by go_num,_,_,HN.out⟩
    ·obtain rfl : j = 5 := by omega
     go_wp2;go_end0;rw [HNX.out];exact ⟨rfl,_,_,HG.out.trans HM.out⟩
end
end
section
section
variable {base g b : Nat}{F G F1 G1 : Nat → Prop}{m : SM}{ex : ExD}{w : World}
theorem DA.exit2 {w' : World}(h : DA base g b F G m ex w){cs : List Value}(hB0 : Blk w b 120 cs.toArray)(ex' : ExD)(hB1 : Blk w' b 120 (zaM cs 13 [.int .i8 ex'.kind,.int .i64 ex'.v,.int .i64 ex'.tgt,.int .i64 ex'.els]).toArray)(Gr : w.grownBy w' (some b)) : DG base g b G w F G m ex' w' :=
 h.exit ex' (fun es hE => by
  have e : w.heap[b]? = some (.cells cs.toArray 120 (0,0)) := hB0;have e2 : w.heap[b]? = some (.cells (mC g m.regs es ex m.err).toArray 120 (0,0)) := hE;rw [e] at e2;injection e2 with e2
  injection e2 with e2
  have e3 : cs = mC g m.regs es ex m.err := by simpa using e2
  rw [e3] at hB1;exact hB1) Gr
noncomputable def SM.dends (m : SM)(x : ID)(next : List Int) : SM × ExD :=
 if x.kind = 6 then (m,⟨0,m.reg 0,0,0⟩)
 else if x.kind = 3 then
  let q := m.second x
  let c := q.1.ask x.op (m.reg x.dst) q.2
  (c.1,if next.getD 0 0 = next.getD 1 0 then ⟨1,0,next.getD 0 0,0⟩ else ⟨2,c.2,next.getD 0 0,next.getD 1 0⟩)
 else (m,⟨1,0,next.getD 0 0,0⟩)
theorem znu (h : DA base g b F G m ex w)(x : ID)(hk : x.kind = 6)(s : Value)(nx : List Int) : Calls prog 51 #[.pointer (some ⟨b,0,none⟩),.agg x.cells.toArray,s] w (znC base g b G (m.dends x nx).2 w (m.dends x nx).1) := by
 have hb0 : base ≤ w.heap.size := zto (h.low b h.nb.2).1 (ztu h.lt);have hbl := ((Below.refl w.heap.size w).alloc (ztn _) (.cells x.cells.toArray 47));have HG := Hd (DG.of_below h hbl)
 have HB0 := Hd (show Blk (w.alloc (.cells x.cells.toArray 47)) w.heap.size 47 x.cells.toArray from Blk.new w 47 x.cells.toArray)
 have HLOW := Hd (fun (e : G w.heap.size) => by have := (h.low _ e).2; omega : ¬ G w.heap.size)
 obtain ⟨r0,hr0⟩ : ∃ r,m.regs.getD 0 0 = r := ⟨_,rfl⟩;have HNX := Hd (show m.dends x nx = (m,⟨0,r0,0,0⟩) by unfold SM.dends; rw [if_pos hk,← hr0]; rfl)
 have c1 : (w.alloc (.cells x.cells.toArray 47)).cell? ⟨b,1,none⟩ = some (.int .i64 r0) := by rw [← hr0]; exact HG.out.at_.creg (d := 0) (by omega)
 have HM := Hd (DG.refl HG.out.at_)
 have HK := Hd hk
 clear h hk hb0 hbl hr0;go_enter func51,ntmps51;go_upto_region 1 with fail
 generalize (w.alloc (.cells x.cells.toArray 47)) = Wd at HG HM HB0 c1 ⊢;generalize w.heap.size = bx at HB0 HLOW ⊢;have b0 : Wd.cell? ⟨bx,0,none⟩ = some (.int .i8 6) := by rw [← HK.out]; exact HB0.out.cell 0
 have qb := fun (W : World) => zhH r0 W
 obtain ⟨es,qe,hBs,_⟩ := HM.out.at_.box;have HBS := Hd hBs
 have HLN := Hd HM.out.at_.len
 clear hBs;go_wp2_with (first
  | (refine zaa rfl 63 (.tmp 32) (.tmp 29) rfl b 13 120 _ (exC ⟨0,r0,0,0⟩) (.agg (exC ⟨0,r0,0,0⟩).toArray) HBS.out (by rfl) (by rfl) rfl znS (by rw [zco HLN.out]; simp [exC]) (zdv _) ?_
     intro wq hBq hgq hsq;have HMQ := Hd (HM.out.trans (HM.out.at_.exit2 HBS.out ⟨0,r0,0,0⟩ hBq hgq))
     clear hBq hgq hsq)
  | fail)
 go_end0;rw [HNX.out];exact ⟨rfl,_,_,HG.out.trans HMQ.out⟩
theorem znv (h : DA base g b F G m ex w)(x : ID)(hk6 : x.kind ≠ 6)(hk : x.kind ≠ 3){An : Option Addr}{nn cn : Nat}{nx : List Int}(hn : zbk w G (.slice An nn cn) nx)(hnn : 0 < nn) : Calls prog 51 #[.pointer (some ⟨b,0,none⟩),.agg x.cells.toArray,.slice An nn cn] w (znC base g b G (m.dends x nx).2 w (m.dends x nx).1) := by
 have hb0 : base ≤ w.heap.size := zto (h.low b h.nb.2).1 (ztu h.lt);have hbl := (Below.refl w.heap.size w).alloc (ztn _) (.cells x.cells.toArray 47);have HG := Hd (DG.of_below h hbl)
 have HB0 := Hd (show Blk (w.alloc (.cells x.cells.toArray 47)) w.heap.size 47 x.cells.toArray from Blk.new w 47 x.cells.toArray)
 have HLOW := Hd (fun (e : G w.heap.size) => by have := (h.low _ e).2; omega : ¬ G w.heap.size)
 have HNF := Hd (hn.chg (G := G) (Chg.of_below hbl) (fun k q => .inr q) (fun k q => .inl q))
 obtain ⟨n0,hn0⟩ : ∃ n,nx.getD 0 0 = n := ⟨_,rfl⟩;have HNX := Hd (show m.dends x nx = (m,⟨1,0,n0,0⟩) by unfold SM.dends; rw [if_neg hk6,if_neg hk,hn0])
 obtain ⟨ad,hAn,hab,hc0⟩ := HNF.out.at0 (k := 0) (by omega);subst hAn;rw [hn0] at hc0;have hk6' : (x.kind == 6) = false := by simpa using hk6
 have hk3' : (x.kind == 3) = false := by simpa using hk
 have HM := Hd (DG.refl HG.out.at_)
 have HNN := Hd (ztp hnn hnn)
 obtain ⟨kd,hkd⟩ : ∃ k,x.kind = k := ⟨_,rfl⟩;rw [hkd] at hk6' hk3';have b0 : (w.alloc (.cells x.cells.toArray 47)).cell? ⟨w.heap.size,0,none⟩ = some (.int .i8 kd) := by rw [← hkd]; exact HB0.out.cell 0
 clear h hk hk6 hb0 hbl hn hn0 hkd hab HNF;go_enter func51,ntmps51;go_upto_region 1 with fail
 generalize (w.alloc (.cells x.cells.toArray 47)) = Wd at HG HM HB0 hc0 b0 ⊢;generalize w.heap.size = bx at HB0 HLOW b0 ⊢;have c0 : Wd.cell? ad = some (.int .i64 n0) := hc0;clear hc0;have qb := fun (W : World) => zd0 n0 W
 obtain ⟨es,qe,hBs,_⟩ := HM.out.at_.box;have HBS := Hd hBs
 have HLN := Hd HM.out.at_.len
 clear hBs;go_wp2_with (first
  | (refine zaa rfl 63 (.tmp 19) (.tmp 16) rfl b 13 120 _ (exC ⟨1,0,n0,0⟩) (.agg (exC ⟨1,0,n0,0⟩).toArray) HBS.out (by rfl) (by rfl) rfl znS (by rw [zco HLN.out]; simp [exC]) (zdv _) ?_
     intro wq hBq hgq hsq;have HMQ := Hd (HM.out.trans (HM.out.at_.exit2 HBS.out ⟨1,0,n0,0⟩ hBq hgq))
     clear hBq hgq hsq)
  | fail)
 go_end0;rw [HNX.out];exact ⟨rfl,_,_,HG.out.trans HMQ.out⟩
end
end
end Go.Proofs.YtepagfkkjlbipaaGreat
