/-
  Terms compared; laws for taking loads first in a region that draws. Conditions: those written in each statement.
  Short forms of the steps of a region that draws. Conditions: those written in each statement.
  Contracts of bits: Cut, Sign, long, Do, Holds. Conditions: those written in each statement.
-/
import Derived.Test.YtepagfkkjlbipaaGreatKae
import Derived.Test.YtepagfkkjlbipaaGreatKab
import Derived.Test.YtepagfkkjlbipaaGreatKac
import Derived.Test.YtepagfkkjlbipaaGreatKad
import Derived.RegionTactic
import Derived.Laws.StructEq
import Derived.Test.YtepagfkkjlbipaaGreatOrd
import Derived.Laws.EntriesVeiled
section
namespace Go.Proofs.YtepagfkkjlbipaaGreat
open Go.RowKit
set_option linter.unusedVariables false
set_option linter.unusedSimpArgs false
set_option maxRecDepth 100000
theorem flatTm : flatK Tryz.prog 4 147 = some [some .i8, some .i8, some .i8, some .u64, some .i64, some .i64, some .i64] := by kernel_rfl
theorem okTm : eqOk Tryz.prog 4 147 = true := by kernel_rfl
theorem aggTm : aggT Tryz.prog 147 = true := by kernel_rfl
theorem tm_all {x : TD} (h : x.wf) : AllK [some .i8, some .i8, some .i8, some .u64, some .i64, some .i64, some .i64] x.cells := by
 obtain ⟨h0, h1, h2, h3, h4, h5, h6⟩ := h
 refine ⟨rfl, fun i k v hk hv => ?_⟩
 match i with
 | 0 => simp [TD.cells] at hk hv; subst hk hv; exact ⟨_, rfl, wf_i8 h0⟩
 | 1 => simp [TD.cells] at hk hv; subst hk hv; exact ⟨_, rfl, wf_i8 h1⟩
 | 2 => simp [TD.cells] at hk hv; subst hk hv; exact ⟨_, rfl, wf_i8 h2⟩
 | 3 => simp [TD.cells] at hk hv; subst hk hv; exact ⟨_, rfl, wf_u64 h3⟩
 | 4 => simp [TD.cells] at hk hv; subst hk hv; exact ⟨_, rfl, wf_i64 h4⟩
 | 5 => simp [TD.cells] at hk hv; subst hk hv; exact ⟨_, rfl, wf_i64 h5⟩
 | 6 => simp [TD.cells] at hk hv; subst hk hv; exact ⟨_, rfl, wf_i64 h6⟩
 | i + 7 => simp at hk
theorem eqL_tm {x y : TD} (hx : x.wf) (hy : y.wf) : eqL x.cells y.cells = decide (x = y) := by
 have := eqL_iff _ _ _ (tm_all hx) (tm_all hy)
 rw [Bool.eq_iff_iff, this]
 simp only [decide_eq_true_eq]
 exact ⟨TD.cells_inj, fun h => by rw [h]⟩
theorem eql_tm {x y : TD} (hx : x.wf) (hy : y.wf) (w : World) : (binOp .eql 147 (.agg x.cells.toArray) (.agg y.cells.toArray)).run Tryz.prog w = .ok (.bool (decide (x = y))) w := by
 rw [run_eql_flat (by omega) flatTm okTm aggTm (tm_all hx) (tm_all hy) w, eqL_tm hx hy]
theorem eql_tmG {x y : TD} (hx : x.wf) (hy : y.wf) (p q : Operand) (w : World) : (do eqGuard .eql 147 p q (.agg x.cells.toArray) (.agg y.cells.toArray); binOp .eql 147 (.agg x.cells.toArray) (.agg y.cells.toArray) : Sem Value).run Tryz.prog w = .ok (.bool (decide (x = y))) w := by
 have := eql_tm hx hy w
 simp only [Sem.run_bind]
 rw [show (eqGuard .eql 147 p q (.agg x.cells.toArray) (.agg y.cells.toArray)).run Tryz.prog w = .ok () w from run_eqGuard_agg (w := w) .eql 147 p q _ _ Tryz.eqGuardType147]
 exact this
end Go.Proofs.YtepagfkkjlbipaaGreat
end
section
namespace Go.Proofs.YtepagfkkjlbipaaGreat
open Go.RowKit
set_option linter.unusedVariables false
set_option linter.unusedSimpArgs false
def sL : List Value → Nat → Value → List Value
 | [], _, _ => []
 | _ :: r, 0, v => v :: r
 | x :: r, k + 1, v => x :: sL r k v
theorem sL_set : ∀ (l : List Value) (k : Nat) (v : Value), l.set k v = sL l k v
 | [], _, _ => rfl
 | _ :: _, 0, _ => rfl
 | _ :: r, k + 1, v => congrArg _ (sL_set r k v)
theorem pt (l : List Value) (ds : List Deferred) (t : Nat) (v : Value) : Act.put ⟨l.toArray, ds⟩ (some t) v = ⟨(sL l t v).toArray, ds⟩ := by
 unfold Act.put
 rw [← sL_set]
 simp
theorem pn (a : Act) (v : Value) : a.put none v = a := rfl
section
variable {P : Program} {ops : Array Oper} {Q : Exit → Act → World → Prop} {md : Region.Mode} {T S : World → Prop} {late : List Nat} {fuel : Nat} {listed : Array Bool} {ts : List Value} {ds : List Deferred} {w : World} {t : Nat}
theorem ea (i : Nat) (v : Value) {op : Op} (hy : ∀ o : Oper, o.op = op → ∀ w, SS T S false w → (execOp (Act.eval ⟨ts.toArray, ds⟩) o).run P w = .ok (.value v) w) (hS : St T S late listed w) (h : wpAnyE P md ops Q T S late fuel (listed.setIfInBounds i true) ⟨(sL ts t v).toArray, ds⟩ w) (ho : opAt ops i = some (some t, op) := by rfl) (hc : checkE md ops late listed i false = true := by kernel_rfl) (hw : wantAt ops i ⟨ts.toArray, ds⟩ = some true := by rfl) (hQ : ∀ c (a : Act) w, Q (.panic c) (a.put (some t) v) w → Q (.panic c) a w := by exact fun _ _ _ h => h) :
  wpAnyE P md ops Q T S late (fuel + 1) listed ⟨ts.toArray, ds⟩ w := E_any false i _ op v ho hc hw hQ hy hS (by rw [pt]; exact h)
theorem eg (i : Nat) (v : Value) {op : Op} (hS : St T S late listed w) (h : wpAnyE P md ops Q T S late fuel (listed.setIfInBounds i true) ⟨(sL ts t v).toArray, ds⟩ w) (ho : opAt ops i = some (some t, op) := by rfl) (hc : checkE md ops late listed i false = true := by kernel_rfl) (hw : wantAt ops i ⟨ts.toArray, ds⟩ = some true := by rfl) (hQ : ∀ c (a : Act) w, Q (.panic c) (a.put (some t) v) w → Q (.panic c) a w := by exact fun _ _ _ h => h)
  (hy : ∀ o : Oper, o.op = op → ∀ w, SS T S false w → (execOp (Act.eval ⟨ts.toArray, ds⟩) o).run P w = .ok (.value v) w := by (intro o e w _; unfold execOp; simp only [e]; go_simp)) :
  wpAnyE P md ops Q T S late (fuel + 1) listed ⟨ts.toArray, ds⟩ w := E_any false i _ op v ho hc hw hQ hy hS (by rw [pt]; exact h)
theorem en (i : Nat) {op : Op} (hS : St T S late listed w) (h : wpAnyE P md ops Q T S late fuel (listed.setIfInBounds i true) ⟨(sL ts t undef).toArray, ds⟩ w) (ho : opAt ops i = some (some t, op) := by rfl) (hc : checkE md ops late listed i false = true := by kernel_rfl) (hw : wantAt ops i ⟨ts.toArray, ds⟩ = some false := by rfl) (hQ : ∀ c (a : Act) w, Q (.panic c) (a.put (some t) undef) w → Q (.panic c) a w := by exact fun _ _ _ h => h) :
  wpAnyE P md ops Q T S late (fuel + 1) listed ⟨ts.toArray, ds⟩ w := E_not i _ op ho hc hw hQ hS (by rw [pt]; exact h)
theorem em (i : Nat) (v : Value) {x : Operand} (hS : St T S late listed w) (h : wpAnyE P md ops Q T S late fuel (listed.setIfInBounds i true) ⟨(sL ts t v).toArray, ds⟩ w) (ho : opAt ops i = some (some t, .move x) := by rfl) (hc : checkE md ops late listed i false = true := by kernel_rfl) (hw : wantAt ops i ⟨ts.toArray, ds⟩ = some true := by rfl) (hQ : ∀ c (a : Act) w, Q (.panic c) (a.put (some t) v) w → Q (.panic c) a w := by exact fun _ _ _ h => h)
  (hx : Act.eval ⟨ts.toArray, ds⟩ x = v := by rfl) : wpAnyE P md ops Q T S late (fuel + 1) listed ⟨ts.toArray, ds⟩ w := E_move i _ x v ho hc hw hQ hx hS (by rw [pt]; exact h)
theorem ep (i : Nat) (b : Bool) (v : Value) {c x y : Operand} (hS : St T S late listed w) (h : wpAnyE P md ops Q T S late fuel (listed.setIfInBounds i true) ⟨(sL ts t v).toArray, ds⟩ w) (ho : opAt ops i = some (some t, .pick c x y) := by rfl) (hc : checkE md ops late listed i false = true := by kernel_rfl) (hw : wantAt ops i ⟨ts.toArray, ds⟩ = some true := by rfl) (hQ : ∀ c (a : Act) w, Q (.panic c) (a.put (some t) v) w → Q (.panic c) a w := by exact fun _ _ _ h => h)
  (hb : Act.eval ⟨ts.toArray, ds⟩ c = .bool b := by rfl) (hv : (if b then Act.eval ⟨ts.toArray, ds⟩ x else Act.eval ⟨ts.toArray, ds⟩ y) = v := by rfl) : wpAnyE P md ops Q T S late (fuel + 1) listed ⟨ts.toArray, ds⟩ w := E_pick i _ c x y b v ho hc hw hQ hb hv hS (by rw [pt]; exact h)
theorem ez (i : Nat) (ad : Addr) {x : Operand} (hS : St T S late listed w) (h : wpAnyE P md ops Q T S late fuel (listed.setIfInBounds i true) ⟨(sL ts t (.pointer (some ad))).toArray, ds⟩ w) (ho : opAt ops i = some (some t, .nilCheck x) := by rfl) (hc : checkE md ops late listed i false = true := by kernel_rfl) (hw : wantAt ops i ⟨ts.toArray, ds⟩ = some true := by rfl) (hQ : ∀ c (a : Act) w, Q (.panic c) (a.put (some t) (.pointer (some ad))) w → Q (.panic c) a w := by exact fun _ _ _ h => h)
  (hx : Act.eval ⟨ts.toArray, ds⟩ x = .pointer (some ad) := by rfl) : wpAnyE P md ops Q T S late (fuel + 1) listed ⟨ts.toArray, ds⟩ w := E_nil i _ x ad ho hc hw hQ hx hS (by rw [pt]; exact h)
theorem ef (i : Nat) (ad ad' : Addr) {st : TypeId} {x : Operand} {f : Nat} (hS : St T S late listed w) (h : wpAnyE P md ops Q T S late fuel (listed.setIfInBounds i true) ⟨(sL ts t (.pointer (some ad'))).toArray, ds⟩ w) (ho : opAt ops i = some (some t, .fieldAddr st x f) := by rfl) (hc : checkE md ops late listed i false = true := by kernel_rfl) (hw : wantAt ops i ⟨ts.toArray, ds⟩ = some true := by rfl) (hQ : ∀ c (a : Act) w, Q (.panic c) (a.put (some t) (.pointer (some ad'))) w → Q (.panic c) a w := by exact fun _ _ _ h => h)
  (hx : Act.eval ⟨ts.toArray, ds⟩ x = .pointer (some ad) := by rfl) (hr : ∀ w, (Instr.fieldAt st (.pointer (some ad)) f).run P w = .ok (.pointer (some ad')) w := by exact fun w => by kernel_rfl) : wpAnyE P md ops Q T S late (fuel + 1) listed ⟨ts.toArray, ds⟩ w := E_field i _ st x f ad ad' ho hc hw hQ hx hr hS (by rw [pt]; exact h)
theorem el (b : Bool) (i : Nat) (ad : Addr) (v : Value) {ty : TypeId} {d : TypeDesc} {x : Operand} (hu : P.underlying ty = some d) (hl : ∀ w, SS T S b w → w.cell? ad = some v) (hS : St T S late listed w) (h : wpAnyE P md ops Q T S late fuel (listed.setIfInBounds i true) ⟨(sL ts t v).toArray, ds⟩ w) (ho : opAt ops i = some (some t, .load ty x) := by rfl) (hc : checkE md ops late listed i b = true := by kernel_rfl) (hw : wantAt ops i ⟨ts.toArray, ds⟩ = some true := by rfl) (hQ : ∀ c (a : Act) w, Q (.panic c) (a.put (some t) v) w → Q (.panic c) a w := by exact fun _ _ _ h => h)
  (hx : Act.eval ⟨ts.toArray, ds⟩ x = .pointer (some ad) := by rfl) (hd : aggD d = false := by rfl) : wpAnyE P md ops Q T S late (fuel + 1) listed ⟨ts.toArray, ds⟩ w := E_load1 b i _ ty x ad v ho hc hw hQ hx (fun w hS => run_loadVar_one _ _ _ _ hu hd (hl w hS)) hS (by rw [pt]; exact h)
theorem eL (b : Bool) (i : Nat) (ad : Addr) (cs : List Value) {ty : TypeId} {d : TypeDesc} {x : Operand} (hl : ∀ w, SS T S b w → ∀ j u, cs[j]? = some u → w.cell? (ad.add j) = some u) (hu : P.underlying ty = some d) (hi : (P.info? ty).map (·.size) = some cs.length) (hS : St T S late listed w) (h : wpAnyE P md ops Q T S late fuel (listed.setIfInBounds i true) ⟨(sL ts t (.agg cs.toArray)).toArray, ds⟩ w) (ho : opAt ops i = some (some t, .load ty x) := by rfl) (hc : checkE md ops late listed i b = true := by kernel_rfl) (hw : wantAt ops i ⟨ts.toArray, ds⟩ = some true := by rfl) (hQ : ∀ c (u : Act) w, Q (.panic c) (u.put (some t) (.agg cs.toArray)) w → Q (.panic c) u w := by exact fun _ _ _ h => h)
  (hx : Act.eval ⟨ts.toArray, ds⟩ x = .pointer (some ad) := by rfl) (hd : aggD d = true := by rfl) : wpAnyE P md ops Q T S late (fuel + 1) listed ⟨ts.toArray, ds⟩ w := E_load b i _ ty x ad cs d ho hc hw hQ hx hl hu hd hi hS (by rw [pt]; exact h)
theorem ex (i : Nat) (vx vy v : Value) {ty : TypeId} {x y : Operand} (hr : ∀ w, (Instr.indexAt ty vx vy).run P w = .ok v w) (hS : St T S late listed w) (h : wpAnyE P md ops Q T S late fuel (listed.setIfInBounds i true) ⟨(sL ts t v).toArray, ds⟩ w) (ho : opAt ops i = some (some t, .indexAddr ty x y) := by rfl) (hc : checkE md ops late listed i false = true := by kernel_rfl) (hw : wantAt ops i ⟨ts.toArray, ds⟩ = some true := by rfl) (hQ : ∀ c (a : Act) w, Q (.panic c) (a.put (some t) v) w → Q (.panic c) a w := by exact fun _ _ _ h => h)
  (hx : Act.eval ⟨ts.toArray, ds⟩ x = vx := by rfl) (hy : Act.eval ⟨ts.toArray, ds⟩ y = vy := by rfl) : wpAnyE P md ops Q T S late (fuel + 1) listed ⟨ts.toArray, ds⟩ w := E_any false i _ _ v ho hc hw hQ (fun o e w _ => by
  unfold execOp
  simp only [e, hx, hy, Sem.run_bind, hr, Result.andThen_ok, Sem.run_pure]) hS (by rw [pt]; exact h)
end
end Go.Proofs.YtepagfkkjlbipaaGreat
end
section
namespace Go.Proofs.YtepagfkkjlbipaaGreat
open Go.RowKit
set_option linter.unusedVariables false
set_option linter.unusedSimpArgs false
theorem ret_i {k : IntKind} {a b : Int} (h : a = b) : Ending.returned (.int k a) = .returned (.int k b) := by rw [h]
theorem cut_any (v x : Int) (w : World) : Calls Tryz.prog 97 #[.int .u64 v, .int .i8 x] w fun e w' => e = .returned (.int .u64 (cutV x v)) ∧ w = w' := by
 cases h8 : (x == 8)
 ·cases h16 : (x == 16)
  ·cases h32 : (x == 32)
   ·have e : cutV x v = v := by simp at h8 h16 h32; unfold cutV; simp [h8, h16, h32]
    rw [e]
    go_enter Tryz.func97, Tryz.ntmps97
    go_wp2
    go_ret
    exact ⟨rfl, rfl⟩
   ·obtain rfl : x = 32 := by simpa using h32
    go_enter Tryz.func97, Tryz.ntmps97
    go_wp2
    go_ret
    exact ⟨rfl, rfl⟩
  ·obtain rfl : x = 16 := by simpa using h16
   go_enter Tryz.func97, Tryz.ntmps97
   go_wp2
   go_ret
   exact ⟨ret_i (by rw [IntKind.wrap_u64, IntKind.wrap_u16]; unfold cutV; simp; omega), rfl⟩
 ·obtain rfl : x = 8 := by simpa using h8
  go_enter Tryz.func97, Tryz.ntmps97
  go_wp2
  go_ret
  exact ⟨rfl, rfl⟩
theorem long_any (x : Int) (w : World) : Calls Tryz.prog 148 #[.int .i8 x] w fun e w' => e = .returned (.bool (longB x)) ∧ w = w' := by
 cases h32 : (x == 32)
 ·go_enter Tryz.func148, Tryz.ntmps148
  go_wp2
  go_ret
  exact ⟨by unfold longB; simp [h32], rfl⟩
 ·go_enter Tryz.func148, Tryz.ntmps148
  go_wp2
  go_ret
  exact ⟨by unfold longB; simp [h32], rfl⟩
def signU (x v : Int) : Int := if x = 8 then IntKind.u64.wrap (wrap64 (IntKind.i8.wrap v)) else if x = 16 then IntKind.u64.wrap (wrap64 (IntKind.i16.wrap v)) else if x = 32 then IntKind.u64.wrap (wrap64 (wrap32 v)) else v
theorem sign_any (v x : Int) (w : World) : Calls Tryz.prog 152 #[.int .u64 v, .int .i8 x] w fun e w' => e = .returned (.int .u64 (signU x v)) ∧ w = w' := by
 cases h8 : (x == 8)
 ·cases h16 : (x == 16)
  ·cases h32 : (x == 32)
   ·have e : signU x v = v := by simp at h8 h16 h32; unfold signU; simp [h8, h16, h32]
    rw [e]
    go_enter Tryz.func152, Tryz.ntmps152
    go_wp2
    go_ret
    exact ⟨rfl, rfl⟩
   ·obtain rfl : x = 32 := by simpa using h32
    go_enter Tryz.func152, Tryz.ntmps152
    go_wp2
    go_ret
    exact ⟨rfl, rfl⟩
  ·obtain rfl : x = 16 := by simpa using h16
   go_enter Tryz.func152, Tryz.ntmps152
   go_wp2
   go_ret
   exact ⟨rfl, rfl⟩
 ·obtain rfl : x = 8 := by simpa using h8
  go_enter Tryz.func152, Tryz.ntmps152
  go_wp2
  go_ret
  exact ⟨rfl, rfl⟩
set_option maxHeartbeats 1000000 in
theorem do_no {op x : Int} (a b : Int) (w : World) (h : op < 0 ∨ 12 < op ∨ longB x = false) : Calls Tryz.prog 98 #[.int .i8 op, .int .i8 x, .int .u64 a, .int .u64 b] w fun e w' => e = .returned (.tuple #[.int .u64 0, .int .i64 2]) ∧ w = w' := by
 cases h1 : decide (op < 0)
 ·cases h2 : decide (12 < op)
  ·have HL := hide (show longB x = false by simp at h1 h2; rcases h with h | h | h <;> first | exact h | omega)
   clear h
   go_enter Tryz.func98, Tryz.ntmps98
   go_wp2_with fail
   refine (long_any x _).mono ?_
   rintro e w' ⟨rfl, rfl⟩
   rw [HL.out]
   go_wp2
   go_ret2
   exact ⟨rfl, rfl⟩
  ·clear h
   go_enter Tryz.func98, Tryz.ntmps98
   go_wp2
   go_ret2
   exact ⟨rfl, rfl⟩
 ·clear h
  go_enter Tryz.func98, Tryz.ntmps98
  go_wp2
  go_ret2
  exact ⟨rfl, rfl⟩
def opsL : List Value := [.func (.func 159) #[] #[], .func (.func 160) #[] #[], .func (.func 161) #[] #[], .func (.func 162) #[] #[], .func (.func 163) #[] #[], .func (.func 164) #[] #[], .func (.func 165) #[] #[], .func (.func 166) #[] #[], .func (.func 167) #[] #[], .func (.func 168) #[] #[], .func (.func 169) #[] #[], .func (.func 170) #[] #[], .func (.func 171) #[] #[]]
theorem ops_any (w : World) : Calls Tryz.prog 149 #[] w fun e w' => e = .returned (.agg opsL.toArray) ∧ Below w.heap.size w w' := by
 have hb := Blk.new w 197 opsL.toArray
 have hrl := run_loadVar_at (P := Tryz.prog) _ ⟨w.heap.size, 0, none⟩ 197 opsL _ (blk_list hb) Tryz.underlying197 rfl (by kernel_rfl)
 unfold opsL at hrl ⊢
 go_enter Tryz.func149, Tryz.ntmps149
 go_wp2
 exact bodyPost_ret (by simp [results, Tryz.results149, Act.put, asAddr, Result.andThen, hrl]) rfl ⟨rfl, (Below.refl _ _).alloc (Nat.le_refl _) _⟩
end Go.Proofs.YtepagfkkjlbipaaGreat
end
