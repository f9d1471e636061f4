/-
  norm.Op in plain words; what its laws share in memory. Conditions: those written in each statement.
-/
import Derived.Test.YtfjflefgclfbfaaGreatNi
import Derived.Test.YtfjflefgclfbfaaGreatNc
import Derived.Shelf.Abstract
namespace Go.Proofs.YtfjflefgclfbfaaGreat
open Go.RowKit
set_option linter.unusedVariables false
set_option linter.unusedSimpArgs false
set_option maxRecDepth 100000
def bindR (r : RS) (k : PS → Int → Option RS) : Option RS := if r.2.2 = 0 then k r.1 r.2.1 else some (r.1, 0, r.2.2)
def turnsB (op : Int) : Bool := op == 0 || (op == 2 || (op == 4 || (op == 5 || op == 10)))
def shiftsB (op : Int) : Bool := op == 6 || (op == 7 || op == 12)
/-- A constant on the right that changes nothing. -/
def sameB (op x d : Int) : Bool :=
  (d == 0 && (op == 0 || (op == 4 || (op == 10 || op == 9)))) || ((shiftsB op && bits .and .u64 d (x - 1) == 0) || ((op == 2 && d == 1) || (op == 5 && d == cutV x 18446744073709551615)))
def assocB (T : List TD) (s : TD) (op x : Int) (rt : Bool) : Bool := op == 0 && (rt && ((atP T s.b).kind == 0 && (s.kind == 2 && (s.op == 0 && s.w == x))))
def nilB (op d : Int) : Bool := d == 0 && (op == 2 || (op == 5 || op == 3))
def opL (rec : PS → Int → Int → Int → Option RS) (f : Nat) (p : PS) (op x a b : Int) : Option RS :=
  let s := atP p.T a
  let y := atP p.T b
  let lf := s.kind == 0
  let rt := y.kind == 0
  if (lf && rt) = true then some (putR p (constT (doU op x s.n y.n)))
  else if op = 8 then bindR (putR p (constT 0)) fun q z => rec q 1 z a
  else if op = 11 then zextF f p x b
  else if (op == 1 && rt) = true then bindR (putR p (constT (cutV x (IntKind.u64.wrap (-y.n))))) fun q z => rec q 0 a z
  else if (turnsB op && (lf || (!rt && decide (b < a)))) = true then rec p op b a
  else if assocB p.T s op x rt = true then bindR (putR p (constT (cutV x (IntKind.u64.wrap ((atP p.T s.b).n + y.n))))) fun q z => rec q 0 s.a z
  else if (rt && sameB op x y.n) = true then zextF f p x a
  else if (rt && nilB op y.n) = true then some (putR p (constT 0))
  else if (a == b && (op == 1 || op == 10)) = true then some (putR p (constT 0))
  else if (a == b && (op == 5 || op == 4)) = true then zextF f p x a
  else some (putR p ⟨2, op, x, 0, a, b, 0⟩)
def opF : Nat → PS → Int → Int → Int → Int → Option RS
  | 0, _, _, _, _, _ => none
  | f + 1, p, op, x, a, b =>
    if (hasB p.T a && hasB p.T b) = false then some (p, 0, 2)
    else if doOk op x = false then some (p, 0, 2)
    else
      let r := bothP p x a b
      if r.2.2.2 = 0 then opL (fun q o u v => opF f q o x u v) f r.1 op x r.2.1 r.2.2.1 else some (r.1, 0, r.2.2.2)
/-- Number and error of a result, its pool in memory. -/
def RR (base g : Nat) (F : Nat → Prop) (W : World) (r : RS) (n m : Int) (W' : World) : Prop := n = r.2.1 ∧ m = r.2.2 ∧ ∃ F', PG base g F W F' r.1 W'
section
variable {base g : Nat} {F F1 : Nat → Prop} {W W' W2 : World} {p : PS} {r : RS} {e : Ending}
theorem RR.of (h : RetP base g F W r e W') : ∃ n m, e = .returned (.tuple #[.int .i64 n, .int .i64 m]) ∧ RR base g F W r n m W' := ⟨_, _, h.1, rfl, rfl, h.2⟩
theorem RR.ret {n m : Int} (h : RR base g F W r n m W') : RetP base g F W r (.returned (.tuple #[.int .i64 n, .int .i64 m])) W' := by
  obtain ⟨rfl, rfl, h⟩ := h
  exact ⟨rfl, h⟩
theorem RR.from {n m : Int} (h : PG base g F W F1 p W') (k : RR base g F1 W' r n m W2) : RR base g F W r n m W2 := by
  obtain ⟨h1, h2, F', h3⟩ := k
  exact ⟨h1, h2, F', h.trans h3⟩
end
abbrev ptr (b : Nat) : Value := .pointer (some ⟨b, 0, none⟩)
/-- What the laws of Op have before them: the variables that they share. -/
structure OpE (g : Nat) (op x a b c d : Int) (lf rt tn sh : Bool) (b5 b6 b7 b8 b9 b15 b17 b18 b19 b20 b21 b22 b23 b24 : Nat) (F : Nat → Prop) (W : World) : Prop where
  e5 : Blk W b5 26 #[.pointer (some ⟨g, 0, none⟩)] ∧ ¬ F b5
  e6 : Blk W b6 24 #[.int .i8 op] ∧ ¬ F b6
  e7 : Blk W b7 24 #[.int .i8 x] ∧ ¬ F b7
  e8 : Blk W b8 3 #[.int .i64 a] ∧ ¬ F b8
  e9 : Blk W b9 3 #[.int .i64 b] ∧ ¬ F b9
  e15 : Blk W b15 63 #[.pointer (some ⟨g, 0, none⟩)] ∧ ¬ F b15
  e17 : Blk W b17 31 #[.int .u64 c] ∧ ¬ F b17
  e18 : Blk W b18 4 #[.bool lf] ∧ ¬ F b18
  e19 : Blk W b19 31 #[.int .u64 d] ∧ ¬ F b19
  e20 : Blk W b20 4 #[.bool rt] ∧ ¬ F b20
  e21 : Blk W b21 83 #[.func (.func 37) #[] #[.pointer (some ⟨b5, 0, none⟩)]] ∧ ¬ F b21
  e22 : Blk W b22 85 #[.func (.func 39) #[] #[.pointer (some ⟨b15, 0, none⟩), .pointer (some ⟨b7, 0, none⟩)]] ∧ ¬ F b22
  e23 : Blk W b23 4 #[.bool tn] ∧ ¬ F b23
  e24 : Blk W b24 4 #[.bool sh] ∧ ¬ F b24
section
variable {base g : Nat} {op x a b c d : Int} {lf rt tn sh : Bool} {b5 b6 b7 b8 b9 b15 b17 b18 b19 b20 b21 b22 b23 b24 : Nat} {F F1 : Nat → Prop} {W W' : World} {p : PS}
theorem OpE.pg (h : OpE g op x a b c d lf rt tn sh b5 b6 b7 b8 b9 b15 b17 b18 b19 b20 b21 b22 b23 b24 F W) (k : PG base g F W F1 p W') : OpE g op x a b c d lf rt tn sh b5 b6 b7 b8 b9 b15 b17 b18 b19 b20 b21 b22 b23 b24 F1 W' :=
  ⟨k.blk h.e5.1 h.e5.2, k.blk h.e6.1 h.e6.2, k.blk h.e7.1 h.e7.2, k.blk h.e8.1 h.e8.2, k.blk h.e9.1 h.e9.2, k.blk h.e15.1 h.e15.2, k.blk h.e17.1 h.e17.2, k.blk h.e18.1 h.e18.2, k.blk h.e19.1 h.e19.2, k.blk h.e20.1 h.e20.2, k.blk h.e21.1 h.e21.2, k.blk h.e22.1 h.e22.2, k.blk h.e23.1 h.e23.2, k.blk h.e24.1 h.e24.2⟩
theorem OpE.below (h : OpE g op x a b c d lf rt tn sh b5 b6 b7 b8 b9 b15 b17 b18 b19 b20 b21 b22 b23 b24 F W) (k : Below W.heap.size W W') : OpE g op x a b c d lf rt tn sh b5 b6 b7 b8 b9 b15 b17 b18 b19 b20 b21 b22 b23 b24 F W' :=
  ⟨⟨h.e5.1.below k h.e5.1.lt, h.e5.2⟩, ⟨h.e6.1.below k h.e6.1.lt, h.e6.2⟩, ⟨h.e7.1.below k h.e7.1.lt, h.e7.2⟩, ⟨h.e8.1.below k h.e8.1.lt, h.e8.2⟩, ⟨h.e9.1.below k h.e9.1.lt, h.e9.2⟩, ⟨h.e15.1.below k h.e15.1.lt, h.e15.2⟩, ⟨h.e17.1.below k h.e17.1.lt, h.e17.2⟩, ⟨h.e18.1.below k h.e18.1.lt, h.e18.2⟩, ⟨h.e19.1.below k h.e19.1.lt, h.e19.2⟩, ⟨h.e20.1.below k h.e20.1.lt, h.e20.2⟩, ⟨h.e21.1.below k h.e21.1.lt, h.e21.2⟩, ⟨h.e22.1.below k h.e22.1.lt, h.e22.2⟩, ⟨h.e23.1.below k h.e23.1.lt, h.e23.2⟩, ⟨h.e24.1.below k h.e24.1.lt, h.e24.2⟩⟩
end
theorem enters1_1 : EntersB 38 := enters_of Tryz.func38 (by kernel_rfl) rfl
theorem enters2_1 : EntersB 40 := enters_of Tryz.func40 (by kernel_rfl) rfl
theorem enters4_1 : EntersB 46 := enters_of Tryz.func46 (by kernel_rfl) rfl
theorem enters6_1 : EntersB 49 := enters_of Tryz.func49 (by kernel_rfl) rfl
theorem enters7_1 : EntersB 52 := enters_of Tryz.func52 (by kernel_rfl) rfl
theorem enters8_1 : EntersB 55 := enters_of Tryz.func55 (by kernel_rfl) rfl
/-- number(n): a function that makes a constant. -/
theorem number_any (n : Int) (b5 : Nat) (w : World) : Calls Tryz.prog 37 #[.int .u64 n, .pointer (some ⟨b5, 0, none⟩)] w fun e w' => e = .returned (.func (.func 38) #[] #[.pointer (some ⟨b5, 0, none⟩), .pointer (some ⟨w.heap.size, 0, none⟩)]) ∧ w' = w.alloc (.cells #[.int .u64 n] 31) := by
  go_enter Tryz.func37, Tryz.ntmps37
  go_wp2
  go_ret
  exact ⟨rfl, rfl⟩
/-- as(n): a function that cuts a term. -/
theorem as_any (n : Int) (b15 b7 : Nat) (w : World) : Calls Tryz.prog 39 #[.int .i64 n, .pointer (some ⟨b15, 0, none⟩), .pointer (some ⟨b7, 0, none⟩)] w fun e w' => e = .returned (.func (.func 40) #[] #[.pointer (some ⟨b15, 0, none⟩), .pointer (some ⟨b7, 0, none⟩), .pointer (some ⟨w.heap.size, 0, none⟩)]) ∧ w' = w.alloc (.cells #[.int .i64 n] 3) := by
  go_enter Tryz.func39, Tryz.ntmps39
  go_wp2
  go_ret
  exact ⟨rfl, rfl⟩
section
variable {base g : Nat} {F : Nat → Prop} {p : PS}
theorem number1_any (n : Int) (hn : U64 n) (b5 bn : Nat) (w : World) (h : PoolAt w base F g p) (hbase : base ≤ w.heap.size) (h5 : Blk w b5 26 #[.pointer (some ⟨g, 0, none⟩)]) (hb : Blk w bn 31 #[.int .u64 n]) :
    Calls Tryz.prog 38 #[.pointer (some ⟨b5, 0, none⟩), .pointer (some ⟨bn, 0, none⟩)] w (RetP base g F w (putR p (constT n))) := by
  have c5 := h5.cell 0
  have cn := hb.cell 0
  simp at c5 cn
  have HP := hide h
  have HN := hide hn
  clear h hn h5 hb
  go_enter Tryz.func38, Tryz.ntmps38
  go_wp2_with fail
  refine (const_any n HN.out _ HP.out hbase).mono ?_
  rintro e w1 ⟨rfl, hr⟩
  have HR := hide hr
  clear hr
  go_wp2
  go_ret2
  exact ⟨rfl, HR.out⟩
theorem as1_any (x n : Int) (hx : x = 8 ∨ x = 16 ∨ x = 32 ∨ x = 64) (hn : I64 n) (f : Nat) (r : RS) (hz : zextF f p x n = some r) (b15 b7 bn : Nat) (w : World) (h : PoolAt w base F g p) (hbase : base ≤ w.heap.size) (h15 : Blk w b15 63 #[.pointer (some ⟨g, 0, none⟩)]) (h7 : Blk w b7 24 #[.int .i8 x]) (hb : Blk w bn 3 #[.int .i64 n]) :
    Calls Tryz.prog 40 #[.pointer (some ⟨b15, 0, none⟩), .pointer (some ⟨b7, 0, none⟩), .pointer (some ⟨bn, 0, none⟩)] w (RetP base g F w r) := by
  have c15 := h15.cell 0
  have c7 := h7.cell 0
  have cn := hb.cell 0
  simp at c15 c7 cn
  have HP := hide h
  have HN := hide hn
  have HX := hide hx
  have HZ := hide hz
  clear h hn h15 h7 hb hx hz
  go_enter Tryz.func40, Tryz.ntmps40
  go_wp2_with fail
  refine (zext_any x HX.out f n HN.out _ p r HZ.out _ HP.out hbase).mono ?_
  rintro e w1 ⟨rfl, hr⟩
  have HR := hide hr
  clear hr
  go_wp2
  go_ret2
  exact ⟨rfl, HR.out⟩
end
end Go.Proofs.YtfjflefgclfbfaaGreat
