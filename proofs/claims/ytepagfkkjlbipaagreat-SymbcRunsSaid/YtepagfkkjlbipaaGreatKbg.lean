/-
  Parts of the proof of SymbcRuns. Conditions: those written in each statement.
-/
import Derived.Test.YtepagfkkjlbipaaGreatKbe
import Derived.Test.YtepagfkkjlbipaaGreatKbd
set_option linter.unusedVariables false
set_option linter.unusedSimpArgs false
set_option maxHeartbeats 64000000
set_option maxRecDepth 100000
namespace Go.Proofs.YtepagfkkjlbipaaGreat
open Go.RowKit
open Tryz
section
def zgy (V : List Int) : List Value := V.map (Value.int .u64)
theorem zpj (V : List Int)(i : Nat)(v : Int) : (zgy V).toArray.setIfInBounds i (.int .u64 v) = (zgy (V.set i v)).toArray := by
 unfold zgy;rw [zuc,List.map_set]
theorem znz {ad : Addr}{n cap i : Nat}(h0 : i < n)(w : World) : (Instr.indexAt 26 (.slice (some ad) n cap) (.int .i64 (i : Int))).run prog w = .ok (.pointer (some (ad.add i))) w := by
 go_simp
theorem zq2 {g n cap i : Nat}(h0 : i < n)(w : World) : (Instr.indexAt 26 (.slice (some ⟨g,0,none⟩) n cap) (.int .i64 (i : Int))).run prog w = .ok (.pointer (some ⟨g,i,none⟩)) w := by
 rw [znz h0 w];simp [Addr.add];omega
theorem zq3 {k n : Nat}(hn : 0 < n)(h : n < 9223372036854775808)(hk : k < 9223372036854775808)(w : World) : (binOp .rem 3 (.int .i64 (k : Int)) (.int .i64 (n : Int))).run prog w = .ok (.int .i64 ((k % n : Nat) : Int)) w := by
 have h0 : ¬ n = 0 := by omega
 go_simp;rw [Int.tmod_eq_emod_of_nonneg (by omega)]
theorem zq4 {k n : Nat}(hn : 0 < n)(h : n < 9223372036854775808)(hk : k < 9223372036854775808)(w : World) : (binOp .quo 3 (.int .i64 (k : Int)) (.int .i64 (n : Int))).run prog w = .ok (.int .i64 ((k / n : Nat) : Int)) w := by
 have h0 : ¬ n = 0 := by omega
 have hm : k / n ≤ k := Nat.div_le_self _ _;have q0 : 0 ≤ (k : Int) / (n : Int) := Int.ediv_nonneg (by omega) (by omega);have q1 : (k : Int) / (n : Int) ≤ (k : Int) := by
  rw [show (k : Int) / (n : Int) = ((k / n : Nat) : Int) by simp];omega
 have e3 : IntKind.i64.wrap ((k : Int) / (n : Int)) = (k : Int) / (n : Int) := by rw [IntKind.wrap_i64]; omega
 clear q0 q1 hm;go_simp
def zq9 : List Int := List.replicate 260 0
theorem zsr {ops : Array Oper}{Q : Exit → Act → World → Prop}{md : Region.Mode}{T S : World → Prop}{late : List Nat}{fuel : Nat}{listed : Array Bool}{a : Act}{w : World}(i : Nat)(d : Option Tmp)(x : Operand)(A : Option Addr)(n c : Nat)(ho : zc6 ops i = some (d,.call { callee := .builtin .len,args := #[x],argTypes := #[26] }))(hc : zbv md ops late listed i false = true)(hw : zaS ops i a = some true)
  (hQ : ∀ c a w,Q (.panic c) (a.put d (.int .i64 (n : Int))) w → Q (.panic c) a w) (hx : a.eval x = .slice A n c)
  (hS : St T S late listed w) (h : zas prog md ops Q T S late fuel (listed.setIfInBounds i true) (a.put d (.int .i64 (n : Int))) w) : zas prog md ops Q T S late (fuel + 1) listed a w :=
 zd8 false i d _ _ ho hc hw hQ (fun o e w _ => by
  unfold execOp;simp only [e,resolve,invoke,builtin,Sem.run_bind,Sem.run_pure,Result.andThen_ok,ztD,ztz,ztA,hx];go_simp) hS h
theorem zss {ops : Array Oper}{Q : Exit → Act → World → Prop}{md : Region.Mode}{T S : World → Prop}{late : List Nat}{fuel : Nat}{listed : Array Bool}{a : Act}{w : World}(i : Nat)(d : Option Tmp)(x : Operand)(n : Nat)(hn : n < 9223372036854775808)(ho : zc6 ops i = some (d,.convert 3 31 x))(hc : zbv md ops late listed i false = true)(hw : zaS ops i a = some true)
  (hQ : ∀ c a w,Q (.panic c) (a.put d (.int .u64 (n : Int))) w → Q (.panic c) a w) (hx : a.eval x = .int .i64 (n : Int))
  (hS : St T S late listed w) (h : zas prog md ops Q T S late fuel (listed.setIfInBounds i true) (a.put d (.int .u64 (n : Int))) w) : zas prog md ops Q T S late (fuel + 1) listed a w :=
 zd8 false i d _ _ ho hc hw hQ (fun o e w _ => by
  unfold execOp;simp only [e,hx,Sem.run_bind,Sem.run_pure,Result.andThen_ok];have hh : IntKind.u64.wrap (n : Int) = (n : Int) := by rw [IntKind.wrap_u64]; omega
  go_simp) hS h
theorem zlc : madeCells (Value.int .u64 0).cells (260 * 1) = (zgy zq9).toArray := by kernel_rfl
theorem zeG {b : BinOp}{t : TypeId}{x y : Operand}{u z v : Value}(hb : ∀ w : World,(eqGuard b t x y u z).run prog w = .ok () w)(h : ∀ w,(binOp b t u z).run prog w = .ok v w) : ∀ w : World,(do eqGuard b t x y u z; binOp b t u z : Sem Value).run prog w = .ok v w := fun w => by
 rw [Sem.run_bind,hb w,Result.andThen_ok,h w]
theorem sizU : (prog.info? 31).map (·.size) = some 1 := by kernel_rfl
theorem infU : (prog.info? 31).map (fun i => (i.zero,i.size,i.bytes)) = some (some (.int .u64 0),1,8) := by kernel_rfl
def ValP (w : World)(e : Ending)(w' : World) : Prop := ∃ V : List Int,e = .returned (.slice (some ⟨w.heap.size,0,none⟩) 260 260) ∧ V.length = 260 ∧ (∀ v ∈ V,U64 v) ∧ Blk w' w.heap.size 31 (zgy V).toArray ∧ Below w.heap.size w w'
theorem zld (A : Option Addr)(n c : Nat)(l : List Int)(w : World)(hr : zaU w w.heap.size 1 A n (zgy l))(hl : l.length = n)(hc : n ≤ c)(hn : n ≤ 100) : Calls prog 13 #[.slice A n c] w (ValP w) := by
 have HR := Hd hr
 have HL := Hd hl
 have HC := Hd hc
 have hmk : ∀ w : World,(Instr.makeSlice 26 (.int .i64 260) (.int .i64 260)).run prog w = .ok (.slice (some ⟨w.heap.size,0,none⟩) 260 260) (w.alloc (.cells (zgy zq9).toArray 31)) := fun w => by
  obtain ⟨iU,hiU,hzU,hsU,hbU⟩ := info_parts infU;have := zhx (P := prog) 26 31 iU _ underlying26 hiU hzU .i64 .i64 260 260 (by omega) (by rw [hbU]; omega) (by omega) w;rw [hsU] at this;rw [zlc] at this;exact this
 clear hr hl hc;go_enter func13,ntmps13;go_wp2_with fail
 have hX := Blk.new w 31 (zgy zq9).toArray;have hL : Below w.heap.size w (w.alloc (.cells (zgy zq9).toArray 31)) := (Below.refl _ _).alloc (ztn _) _;obtain ⟨g,hg⟩ : ∃ q,w.heap.size = q := ⟨_,rfl⟩;have HG := Hd hg
 generalize w.alloc (.cells (zgy zq9).toArray 31) = w1 at hX hL ⊢;have HX := Hd hX
 have HB := Hd hL
 clear hmk hX hL;rw [hg] at HX HB HR ⊢;clear hg;go_loopw [4] (fun i wr => ∃ (k : Nat) (V : List Int),k ≤ 260 ∧ i = .int .i64 k ∧ Hid (V.length = 260 ∧ (∀ v ∈ V,U64 v) ∧ Blk wr g 31 (zgy V).toArray ∧ Below g w wr)) (fun i _ => 260 - (intOf i).toNat)
 case atStart => exact ⟨0,zq9,by omega,rfl,rfl,fun v hv => by rw [List.eq_of_mem_replicate hv]; unfold U64; omega,HX.out,HB.out⟩
 case round =>
  obtain ⟨k,V,hk,rfl,HV⟩ := hrel
  rename World => wr
  clear HX HB
  by_cases hk2 : k < 260
  ·cases hn0 : decide (0 < n)
   ·go_wp2
    go_roundw
    case measure => simp [intOf]; omega
    case rel => exact ⟨k + 1,V,by omega,by go_num,HV.out⟩
   ·have hn0 : 0 < n := by simpa using hn0
    have hmod : k % n < n := Nat.mod_lt _ hn0;have hn63 : n < 9223372036854775808 := by omega
    have hk63 : k < 9223372036854775808 := by omega
    obtain ⟨ad,rfl,hab,hcl⟩ := HR.out.2 hn0;obtain ⟨x,hx⟩ : ∃ x,l[k % n]? = some x := ⟨_,ztq (by rw [HL.out]; exact hmod)⟩;have HT0 := Hd (show wr.drew.cell? (ad.add (k % n)) = some (.int .u64 x) from (HV.out.2.2.2.cell (by rw [zaz]; exact hab)).trans (hcl (k % n) _ (by unfold zgy; rw [ztw,hx]; rfl)))
    have HM := Hd (ztp hmod (ztp hn63 hk63))
    clear hab hcl hx hmod hn63 hk63;go_upto_region 6 with fail
    have hn0 := hn0;have hmod := HM.out.1;have hn63 := HM.out.2.1;have hk63 := HM.out.2.2;refine zac (fun _ => True) (fun w' => w'.cell? (ad.add (k % n)) = some (.int .u64 x)) [17] (by kernel_rfl) ?_;replace HV := Hd (show V.length = 260 ∧ (∀ v ∈ V,U64 v) ∧ Blk wr.drew g 31 (zgy V).toArray ∧ Below g w wr.drew from ⟨HV.out.1,HV.out.2.1,HV.out.2.2.1.drew,HV.out.2.2.2.drew⟩)
    generalize wr.drew = Wd at HV HT0 ⊢;have HS := HT0;have HB := Hd HV.out.2.2.1
    have HLV := Hd HV.out.1
    have hlv := HV.out.1;have hq63 : k / n < 9223372036854775808 := Nat.lt_of_le_of_lt (Nat.div_le_self _ _) hk63;clear HT0;refine em 0 (.slice (some ⟨g,0,none⟩) 260 260) (.both trivial HS.out) ?_;refine em 1 (.int .i64 (k : Int)) (.both trivial HS.out) ?_;refine em 2 (.slice (some ad) n c) (.both trivial HS.out) ?_;refine em 3 (.int .i64 (k : Int)) (.both trivial HS.out) ?_;refine em 4 (.slice (some ad) n c) (.both trivial HS.out) ?_;refine zsr 5 (some 20) _ (some ad) n c rfl (by kernel_rfl) (by rfl) (fun _ _ _ h => h) (by rfl) (.both trivial HS.out) ?_;simp only [pt,pn,sL];refine zne 6 (some 21) _ _ _ _ _ (.int .i64 (k : Int)) (.int .i64 (n : Int)) (.int .i64 ((k % n : Nat) : Int)) rfl (by kernel_rfl) (by rfl) (fun _ _ _ h => h) (by rfl) (by rfl) (zeG (fun w => by kernel_rfl) (zq3 hn0 hn63 hk63)) (.both trivial HS.out) ?_;simp only [pt,pn,sL];refine ej 7 (.slice (some ad) n c) (.int .i64 ((k % n : Nat) : Int)) (.pointer (some (ad.add (k % n)))) (znz hmod) (.both trivial HS.out) ?_;refine el true 8 (ad.add (k % n)) (.int .u64 x) underlying31 (fun w hS => (hS.2 rfl)) (.both trivial HS.out) ?_;refine em 9 (.int .i64 (k : Int)) (.both trivial HS.out) ?_;refine em 10 (.slice (some ad) n c) (.both trivial HS.out) ?_;refine zsr 11 (some 26) _ (some ad) n c rfl (by kernel_rfl) (by rfl) (fun _ _ _ h => h) (by rfl) (.both trivial HS.out) ?_;simp only [pt,pn,sL];refine zne 12 (some 27) _ _ _ _ _ (.int .i64 (k : Int)) (.int .i64 (n : Int)) (.int .i64 ((k / n : Nat) : Int)) rfl (by kernel_rfl) (by rfl) (fun _ _ _ h => h) (by rfl) (by rfl) (zeG (fun w => by kernel_rfl) (zq4 hn0 hn63 hk63)) (.both trivial HS.out) ?_;simp only [pt,pn,sL];refine zss 13 (some 28) _ (k / n) hq63 rfl (by kernel_rfl) (by rfl) (fun _ _ _ h => h) (by rfl) (.both trivial HS.out) ?_;simp only [pt,pn,sL];refine zne 14 (some 29) _ _ _ _ _ (.int .u64 ((k / n : Nat) : Int)) (.int .u64 11400714819323198485) (.int .u64 (IntKind.u64.wrap (((k / n : Nat) : Int) * 11400714819323198485))) rfl (by kernel_rfl) (by rfl) (fun _ _ _ h => h) (by rfl) (by rfl) (zeG (fun w => by kernel_rfl) (fun w => by go_simp)) (.both trivial HS.out) ?_;simp only [pt,pn,sL];refine zne 15 (some 30) _ _ _ _ _ (.int .u64 x) (.int .u64 (IntKind.u64.wrap (((k / n : Nat) : Int) * 11400714819323198485))) (.int .u64 (IntKind.u64.wrap (x + IntKind.u64.wrap (((k / n : Nat) : Int) * 11400714819323198485)))) rfl (by kernel_rfl) (by rfl) (fun _ _ _ h => h) (by rfl) (by rfl) (zeG (fun w => by kernel_rfl) (fun w => by go_simp)) (.both trivial HS.out) ?_;simp only [pt,pn,sL];refine ej 16 (.slice (some ⟨g,0,none⟩) 260 260) (.int .i64 (k : Int)) (.pointer (some ⟨g,k,none⟩)) (zq2 hk2) (.both trivial HS.out) ?_;refine zaN 17 (by kernel_rfl) (zar.store_at 17 31 _ _ ⟨g,k,none⟩ (.int .u64 (IntKind.u64.wrap (x + IntKind.u64.wrap (((k / n : Nat) : Int) * 11400714819323198485)))) _ rfl (by rfl) (by rfl) (by rfl) (zaE 31 g k 31 _ _ HB.out (by unfold zgy; simp; omega) sizU rfl rfl) (.after trivial (by kernel_rfl)) ?_);simp only [pt,pn,sL];refine zab (by kernel_rfl) ?_ _;have hch : Chg (fun q => q = g) Wd (Wd.setCell ⟨g,k,none⟩ (.int .u64 (IntKind.u64.wrap (x + IntKind.u64.wrap (((k / n : Nat) : Int) * 11400714819323198485))))) := Chg.of_grown (row := some g) ⟨rfl,rfl,rfl,by simp [World.setCell],fun i _ hne => Below.heap_setCell Wd ⟨g,k,none⟩ _ i (fun e => hne (by rw [e]))⟩ (fun q e => by injection e with e; exact .inl e.symm);replace HV := Hd (show (V.set k (IntKind.u64.wrap (x + IntKind.u64.wrap (((k / n : Nat) : Int) * 11400714819323198485)))).length = 260 ∧ (∀ v ∈ V.set k (IntKind.u64.wrap (x + IntKind.u64.wrap (((k / n : Nat) : Int) * 11400714819323198485))),U64 v) ∧ Blk (Wd.setCell ⟨g,k,none⟩ (.int .u64 (IntKind.u64.wrap (x + IntKind.u64.wrap (((k / n : Nat) : Int) * 11400714819323198485))))) g 31 (zgy (V.set k (IntKind.u64.wrap (x + IntKind.u64.wrap (((k / n : Nat) : Int) * 11400714819323198485))))).toArray ∧ Below g w (Wd.setCell ⟨g,k,none⟩ (.int .u64 (IntKind.u64.wrap (x + IntKind.u64.wrap (((k / n : Nat) : Int) * 11400714819323198485))))) from ⟨by rw [zub]; exact HV.out.1,fun v hv => (List.mem_or_eq_of_mem_set hv).elim (HV.out.2.1 v) (fun e => e ▸ wrap_u64 _),by rw [← zpj]; exact HV.out.2.2.1.set_ k _,HV.out.2.2.2.trans (hch.below (B := g) (fun q e => by omega) (by have := HV.out.2.2.2.size; rw [HG.out] at this; exact this))⟩)
    clear HS HB hch;generalize Wd.setCell ⟨g,k,none⟩ (.int .u64 (IntKind.u64.wrap (x + IntKind.u64.wrap (((k / n : Nat) : Int) * 11400714819323198485)))) = We at HV ⊢;generalize V.set k (IntKind.u64.wrap (x + IntKind.u64.wrap (((k / n : Nat) : Int) * 11400714819323198485))) = V2 at HV;clear hlv HLV hq63;go_wp2;go_roundw
    case measure => simp [intOf]; omega
    case rel => exact ⟨k + 1,V2,by omega,by go_num,HV.out⟩
  ·obtain rfl : k = 260 := by omega
   go_wp2;go_ret;unfold ValP;rw [HG.out];exact ⟨V,rfl,HV.out⟩
end
section
theorem zcx {w : World}{b : Nat}{regs : List Int}{es : Value}{ex : ExD}(hl : regs.length = 11)(h : Blk w b 65 (zcF regs es ex).toArray)(k : Nat) : w.cell? ⟨b,11 + k,none⟩ = [es,.int .i8 ex.kind,.int .i64 ex.v,.int .i64 ex.tgt,.int .i64 ex.els][k]? := by
 rw [h.cell (11 + k),ztK];unfold zcF rgC;rw [zuh (by rw [List.length_map,hl]; omega),List.length_map,hl,Nat.add_sub_cancel_left]
theorem znA {w : World}{b : Nat}{regs : List Int}{es : Value}{ex : ExD}(hl : regs.length = 11)(h : Blk w b 65 (zcF regs es ex).toArray){k : Nat}(hk : k < 11) : w.cell? ⟨b,k,none⟩ = some (.int .i64 (regs.getD k 0)) := by
 rw [h.cell k,ztK];unfold zcF rgC;rw [ztJ (by rw [List.length_map,hl]; exact hk),ztw,zts,ztq (by omega)]
 rfl
theorem zst {T : List TD}{vs : List Int}{n v : Int}(h : evP T vs n = some v) : zal T n = true := by
 cases hb : zal T n
 ·rw [zjW hb] at h; cases h
 ·rfl
theorem zit {w : World}{g : Nat}{vs : List Int}(h : Blk w g 31 (zgy vs).toArray)(hl : vs.length = 260) : zaU w w.heap.size 1 (some ⟨g,0,none⟩) 260 (vs.map (Value.int .u64)) := ⟨by rw [List.length_map]; omega,fun _ => ⟨_,rfl,h.lt,zak h⟩⟩
theorem znB {w : World}{F : Nat → Prop}{B size n : Nat}{A : Option Addr}{xs : List Value}(h : zaU w B size A n xs)(hB : B ≤ w.heap.size)(hF : ∀ k,F k → B ≤ k) : za5 w F size A n xs := ⟨h.1,fun hn => by
 obtain ⟨ad,e,hb,hc⟩ := h.2 hn;exact ⟨ad,e,by omega,fun q => by have := hF _ q; omega,hc⟩⟩
end
end Go.Proofs.YtepagfkkjlbipaaGreat
