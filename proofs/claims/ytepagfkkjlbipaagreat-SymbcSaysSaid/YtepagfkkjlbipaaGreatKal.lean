/-
  Contracts of norm's then and first: laws asked one after the other. Conditions: those written in each statement.
  norm.Op in plain words; what its laws share in memory. Conditions: those written in each statement.
  Contracts of norm's Zext, Narrow. Conditions: those written in each statement.
-/
import Derived.Test.YtepagfkkjlbipaaGreatKak
import Derived.Test.YtepagfkkjlbipaaGreatNc
import Derived.Shelf.Abstract
section
namespace Go.Proofs.YtepagfkkjlbipaaGreat
open Go.RowKit
set_option linter.unusedVariables false
set_option linter.unusedSimpArgs false
set_option maxRecDepth 100000
/-- A function's number enters that function. -/
def EntersB (k : Nat) : Prop := ∀ args w, (callFunc k args).run Tryz.prog w = .ok (.enter k args) w
theorem then_no (d : Value) (w : World) : Calls Tryz.prog 121 #[.bool false, d] w fun e w' => e = .returned (.tuple #[.int .i64 0, .bool false, .int .i64 0]) ∧ w = w' := by
 go_enter Tryz.func121, Tryz.ntmps121
 go_wp2
 exact bodyPost_ret (v := .tuple #[.int .i64 0, .bool false, .int .i64 0]) (by simp [results, Tryz.results121, go_sem]) rfl ⟨rfl, rfl⟩
theorem then_yes (k : Nat) (caps : Array Value) (w : World) (R : Int → Int → World → Prop) (he : EntersB k) (h : Calls Tryz.prog k caps w fun e w' => ∃ n m, e = .returned (.tuple #[.int .i64 n, .int .i64 m]) ∧ R n m w') :
  Calls Tryz.prog 121 #[.bool true, .func (.func k) #[] caps] w fun e w' => ∃ n m, e = .returned (.tuple #[.int .i64 n, .bool true, .int .i64 m]) ∧ R n m w' := by
 have he' : ∀ args w, (callFunc k args).run Tryz.prog w = .ok (.enter k args) w := he
 have H := hide h
 clear h he
 go_enter Tryz.func121, Tryz.ntmps121
 go_wp2_with fail
 refine H.out.mono ?_
 rintro e w1 ⟨n, m, rfl, hr⟩
 have HR := hide hr
 clear hr
 go_wp2
 exact bodyPost_ret (v := .tuple #[.int .i64 n, .bool true, .int .i64 m]) (by simp [results, Tryz.results121, go_sem]) rfl ⟨n, m, rfl, HR.out⟩
/-- A law that does not fit, from whatever world behind W0. -/
def LawNo (W0 : World) (v : Value) : Prop := ∃ k caps, v = .func (.func k) #[] caps ∧ EntersB k ∧ ∀ W, Below W0.heap.size W0 W → Calls Tryz.prog k caps W fun e W' => e = .returned (.tuple #[.int .i64 0, .bool false, .int .i64 0]) ∧ Below W.heap.size W W'
/-- One that fits. -/
def LawYes (W0 : World) (R : Int → Int → World → Prop) (v : Value) : Prop := ∃ k caps, v = .func (.func k) #[] caps ∧ EntersB k ∧ ∀ W, Below W0.heap.size W0 W → Calls Tryz.prog k caps W fun e W' => ∃ n m, e = .returned (.tuple #[.int .i64 n, .bool true, .int .i64 m]) ∧ R n m W'
def LawPut (W0 : World) (R : Int → Int → World → Prop) (v : Value) : Prop := ∃ k caps, v = .func (.func k) #[] caps ∧ EntersB k ∧ ∀ W, Below W0.heap.size W0 W → Calls Tryz.prog k caps W fun e W' => ∃ n m, e = .returned (.tuple #[.int .i64 n, .int .i64 m]) ∧ R n m W'
set_option maxHeartbeats 1000000 in
theorem first_any (W0 : World) (A : Option Addr) (n c : Nat) (L : List Value) (p : Value) (j : Nat) (R : Int → Int → World → Prop) (hL : L.length = n) (hn : n < 1000) (hc : n ≤ c) (hr : Reads W0 W0.heap.size 1 A n L) (hj : j ≤ n)
  (hno : ∀ i v, i < j → L[i]? = some v → LawNo W0 v) (hyes : ∀ v, L[j]? = some v → LawYes W0 R v) (hput : j = n → LawPut W0 R p) :
  Calls Tryz.prog 119 #[.slice A n c, p] W0 fun e w' => ∃ n m, e = .returned (.tuple #[.int .i64 n, .int .i64 m]) ∧ R n m w' := by
 have HL := hide hL
 have HR := hide hr
 have HNO := hide hno
 have HY := hide hyes
 have HPUT := hide hput
 clear hL hr hno hyes hput
 go_enter Tryz.func119, Tryz.ntmps119
 go_wp2
 go_loopw [13] (fun iv wr => ∃ k : Nat, k ≤ j ∧ iv = .int .i64 (k : Int) ∧ Below W0.heap.size W0 wr) (fun iv _ => n - (intOf iv).toNat)
 case atStart => exact ⟨0, by omega, rfl, Below.refl _ _⟩
 case round =>
  obtain ⟨k, hk, rfl, hb⟩ := hrel
  have HB := hide hb
  clear hb
  by_cases hlt : k < n
  ·obtain ⟨ad, u, rfl, _, hu, hcl⟩ := (HR.out.below HB.out).at_ hlt
   have hkc : k < c := by omega
   by_cases hkj : k < j
   ·obtain ⟨f, caps, rfl, hf, hl⟩ := HNO.out k u hkj hu
    have he' : ∀ args w, (callFunc f args).run Tryz.prog w = .ok (.enter f args) w := hf
    have HLAW := hide hl
    clear hl hf hu
    go_wp2_with fail
    refine (HLAW.out _ HB.out).mono ?_
    rintro e w1 ⟨rfl, hb⟩
    have HB1 := hide (HB.out.trans (hb.mono HB.out.size))
    clear hb HB
    go_wp2
    go_roundw
    case measure => simp [intOf]; omega
    case rel => exact ⟨k + 1, by omega, by go_num, HB1.out⟩
   ·obtain rfl : k = j := by omega
    obtain ⟨f, caps, rfl, hf, hl⟩ := HY.out u hu
    have he' : ∀ args w, (callFunc f args).run Tryz.prog w = .ok (.enter f args) w := hf
    have HLAW := hide hl
    clear hl hf hu
    go_wp2_with fail
    refine (HLAW.out _ HB.out).mono ?_
    rintro e w1 ⟨a, b, rfl, hr⟩
    have HRR := hide hr
    clear hr HB
    go_wp2
    go_ret2
    exact ⟨a, b, rfl, HRR.out⟩
  ·obtain rfl : k = n := by omega
   obtain rfl : j = k := by omega
   obtain ⟨f, caps, rfl, hf, hl⟩ := HPUT.out rfl
   have he' : ∀ args w, (callFunc f args).run Tryz.prog w = .ok (.enter f args) w := hf
   have HLAW := hide hl
   clear hl hf
   go_wp2_with fail
   refine (HLAW.out _ HB.out).mono ?_
   rintro e w1 ⟨a, b, rfl, hr⟩
   have HRR := hide hr
   clear hr HB
   go_wp2
   go_ret2
   exact ⟨a, b, rfl, HRR.out⟩
end Go.Proofs.YtepagfkkjlbipaaGreat
end
section
namespace Go.Proofs.YtepagfkkjlbipaaGreat
open Go.RowKit
set_option linter.unusedVariables false
set_option linter.unusedSimpArgs false
set_option maxRecDepth 100000
def bindR (r : RS) (k : PS → Int → Option RS) : Option RS := if r.2.2 = 0 then k r.1 r.2.1 else some (r.1, 0, r.2.2)
def turnsB (op : Int) : Bool := op == 0 || (op == 2 || (op == 4 || (op == 5 || op == 10)))
def shiftsB (op : Int) : Bool := op == 6 || (op == 7 || op == 12)
/-- A constant on the right that changes nothing. -/
def sameB (op x d : Int) : Bool :=
 (d == 0 && (op == 0 || (op == 4 || (op == 10 || op == 9)))) || ((shiftsB op && bits .and .u64 d (x - 1) == 0) || ((op == 2 && d == 1) || (op == 5 && d == cutV x 18446744073709551615)))
def assocB (T : List TD) (s : TD) (op x : Int) (rt : Bool) : Bool := op == 0 && (rt && ((atP T s.b).kind == 0 && (s.kind == 2 && (s.op == 0 && s.w == x))))
def nilB (op d : Int) : Bool := d == 0 && (op == 2 || (op == 5 || op == 3))
def opL (rec : PS → Int → Int → Int → Option RS) (f : Nat) (p : PS) (op x a b : Int) : Option RS :=
 let s := atP p.T a
 let y := atP p.T b
 let lf := s.kind == 0
 let rt := y.kind == 0
 if (lf && rt) = true then some (putR p (constT (doU op x s.n y.n)))
 else if op = 8 then bindR (putR p (constT 0)) fun q z => rec q 1 z a
 else if op = 11 then zextF f p x b
 else if (op == 1 && rt) = true then bindR (putR p (constT (cutV x (IntKind.u64.wrap (-y.n))))) fun q z => rec q 0 a z
 else if (turnsB op && (lf || (!rt && decide (b < a)))) = true then rec p op b a
 else if assocB p.T s op x rt = true then bindR (putR p (constT (cutV x (IntKind.u64.wrap ((atP p.T s.b).n + y.n))))) fun q z => rec q 0 s.a z
 else if (rt && sameB op x y.n) = true then zextF f p x a
 else if (rt && nilB op y.n) = true then some (putR p (constT 0))
 else if (a == b && (op == 1 || op == 10)) = true then some (putR p (constT 0))
 else if (a == b && (op == 5 || op == 4)) = true then zextF f p x a
 else some (putR p ⟨2, op, x, 0, a, b, 0⟩)
def opF : Nat → PS → Int → Int → Int → Int → Option RS
 | 0, _, _, _, _, _ => none
 | f + 1, p, op, x, a, b =>
  if (hasB p.T a && hasB p.T b) = false then some (p, 0, 2)
  else if doOk op x = false then some (p, 0, 2)
  else
   let r := bothP p x a b
   if r.2.2.2 = 0 then opL (fun q o u v => opF f q o x u v) f r.1 op x r.2.1 r.2.2.1 else some (r.1, 0, r.2.2.2)
/-- Number and error of a result, its pool in memory. -/
def RR (base g : Nat) (F : Nat → Prop) (W : World) (r : RS) (n m : Int) (W' : World) : Prop := n = r.2.1 ∧ m = r.2.2 ∧ ∃ F', PG base g F W F' r.1 W'
section
variable {base g : Nat} {F F1 : Nat → Prop} {W W' W2 : World} {p : PS} {r : RS} {e : Ending}
theorem RR.of (h : RetP base g F W r e W') : ∃ n m, e = .returned (.tuple #[.int .i64 n, .int .i64 m]) ∧ RR base g F W r n m W' := ⟨_, _, h.1, rfl, rfl, h.2⟩
theorem RR.ret {n m : Int} (h : RR base g F W r n m W') : RetP base g F W r (.returned (.tuple #[.int .i64 n, .int .i64 m])) W' := by
 obtain ⟨rfl, rfl, h⟩ := h
 exact ⟨rfl, h⟩
theorem RR.from {n m : Int} (h : PG base g F W F1 p W') (k : RR base g F1 W' r n m W2) : RR base g F W r n m W2 := by
 obtain ⟨h1, h2, F', h3⟩ := k
 exact ⟨h1, h2, F', h.trans h3⟩
end
abbrev ptr (b : Nat) : Value := .pointer (some ⟨b, 0, none⟩)
/-- What the laws of Op have before them: the variables that they share. -/
structure OpE (g : Nat) (op x a b c d : Int) (lf rt tn sh : Bool) (b5 b6 b7 b8 b9 b15 b17 b18 b19 b20 b21 b22 b23 b24 : Nat) (F : Nat → Prop) (W : World) : Prop where
 e5 : Blk W b5 50 #[.pointer (some ⟨g, 0, none⟩)] ∧ ¬ F b5
 e6 : Blk W b6 30 #[.int .i8 op] ∧ ¬ F b6
 e7 : Blk W b7 30 #[.int .i8 x] ∧ ¬ F b7
 e8 : Blk W b8 3 #[.int .i64 a] ∧ ¬ F b8
 e9 : Blk W b9 3 #[.int .i64 b] ∧ ¬ F b9
 e15 : Blk W b15 125 #[.pointer (some ⟨g, 0, none⟩)] ∧ ¬ F b15
 e17 : Blk W b17 31 #[.int .u64 c] ∧ ¬ F b17
 e18 : Blk W b18 4 #[.bool lf] ∧ ¬ F b18
 e19 : Blk W b19 31 #[.int .u64 d] ∧ ¬ F b19
 e20 : Blk W b20 4 #[.bool rt] ∧ ¬ F b20
 e21 : Blk W b21 177 #[.func (.func 114) #[] #[.pointer (some ⟨b5, 0, none⟩)]] ∧ ¬ F b21
 e22 : Blk W b22 179 #[.func (.func 116) #[] #[.pointer (some ⟨b15, 0, none⟩), .pointer (some ⟨b7, 0, none⟩)]] ∧ ¬ F b22
 e23 : Blk W b23 4 #[.bool tn] ∧ ¬ F b23
 e24 : Blk W b24 4 #[.bool sh] ∧ ¬ F b24
section
variable {base g : Nat} {op x a b c d : Int} {lf rt tn sh : Bool} {b5 b6 b7 b8 b9 b15 b17 b18 b19 b20 b21 b22 b23 b24 : Nat} {F F1 : Nat → Prop} {W W' : World} {p : PS}
theorem OpE.pg (h : OpE g op x a b c d lf rt tn sh b5 b6 b7 b8 b9 b15 b17 b18 b19 b20 b21 b22 b23 b24 F W) (k : PG base g F W F1 p W') : OpE g op x a b c d lf rt tn sh b5 b6 b7 b8 b9 b15 b17 b18 b19 b20 b21 b22 b23 b24 F1 W' :=
 ⟨k.blk h.e5.1 h.e5.2, k.blk h.e6.1 h.e6.2, k.blk h.e7.1 h.e7.2, k.blk h.e8.1 h.e8.2, k.blk h.e9.1 h.e9.2, k.blk h.e15.1 h.e15.2, k.blk h.e17.1 h.e17.2, k.blk h.e18.1 h.e18.2, k.blk h.e19.1 h.e19.2, k.blk h.e20.1 h.e20.2, k.blk h.e21.1 h.e21.2, k.blk h.e22.1 h.e22.2, k.blk h.e23.1 h.e23.2, k.blk h.e24.1 h.e24.2⟩
theorem OpE.below (h : OpE g op x a b c d lf rt tn sh b5 b6 b7 b8 b9 b15 b17 b18 b19 b20 b21 b22 b23 b24 F W) (k : Below W.heap.size W W') : OpE g op x a b c d lf rt tn sh b5 b6 b7 b8 b9 b15 b17 b18 b19 b20 b21 b22 b23 b24 F W' :=
 ⟨⟨h.e5.1.below k h.e5.1.lt, h.e5.2⟩, ⟨h.e6.1.below k h.e6.1.lt, h.e6.2⟩, ⟨h.e7.1.below k h.e7.1.lt, h.e7.2⟩, ⟨h.e8.1.below k h.e8.1.lt, h.e8.2⟩, ⟨h.e9.1.below k h.e9.1.lt, h.e9.2⟩, ⟨h.e15.1.below k h.e15.1.lt, h.e15.2⟩, ⟨h.e17.1.below k h.e17.1.lt, h.e17.2⟩, ⟨h.e18.1.below k h.e18.1.lt, h.e18.2⟩, ⟨h.e19.1.below k h.e19.1.lt, h.e19.2⟩, ⟨h.e20.1.below k h.e20.1.lt, h.e20.2⟩, ⟨h.e21.1.below k h.e21.1.lt, h.e21.2⟩, ⟨h.e22.1.below k h.e22.1.lt, h.e22.2⟩, ⟨h.e23.1.below k h.e23.1.lt, h.e23.2⟩, ⟨h.e24.1.below k h.e24.1.lt, h.e24.2⟩⟩
end
theorem enters1_1 : EntersB 115 := enters_of Tryz.func115 (by kernel_rfl) rfl
theorem enters2_1 : EntersB 117 := enters_of Tryz.func117 (by kernel_rfl) rfl
theorem enters4_1 : EntersB 123 := enters_of Tryz.func123 (by kernel_rfl) rfl
theorem enters6_1 : EntersB 126 := enters_of Tryz.func126 (by kernel_rfl) rfl
theorem enters7_1 : EntersB 128 := enters_of Tryz.func128 (by kernel_rfl) rfl
theorem enters8_1 : EntersB 131 := enters_of Tryz.func131 (by kernel_rfl) rfl
/-- number(n): a function that makes a constant. -/
theorem number_any (n : Int) (b5 : Nat) (w : World) : Calls Tryz.prog 114 #[.int .u64 n, .pointer (some ⟨b5, 0, none⟩)] w fun e w' => e = .returned (.func (.func 115) #[] #[.pointer (some ⟨b5, 0, none⟩), .pointer (some ⟨w.heap.size, 0, none⟩)]) ∧ w' = w.alloc (.cells #[.int .u64 n] 31) := by
 go_enter Tryz.func114, Tryz.ntmps114
 go_wp2
 go_ret
 exact ⟨rfl, rfl⟩
/-- as(n): a function that cuts a term. -/
theorem as_any (n : Int) (b15 b7 : Nat) (w : World) : Calls Tryz.prog 116 #[.int .i64 n, .pointer (some ⟨b15, 0, none⟩), .pointer (some ⟨b7, 0, none⟩)] w fun e w' => e = .returned (.func (.func 117) #[] #[.pointer (some ⟨b15, 0, none⟩), .pointer (some ⟨b7, 0, none⟩), .pointer (some ⟨w.heap.size, 0, none⟩)]) ∧ w' = w.alloc (.cells #[.int .i64 n] 3) := by
 go_enter Tryz.func116, Tryz.ntmps116
 go_wp2
 go_ret
 exact ⟨rfl, rfl⟩
section
variable {base g : Nat} {F : Nat → Prop} {p : PS}
theorem number1_any (n : Int) (hn : U64 n) (b5 bn : Nat) (w : World) (h : PoolAt w base F g p) (hbase : base ≤ w.heap.size) (h5 : Blk w b5 50 #[.pointer (some ⟨g, 0, none⟩)]) (hb : Blk w bn 31 #[.int .u64 n]) :
  Calls Tryz.prog 115 #[.pointer (some ⟨b5, 0, none⟩), .pointer (some ⟨bn, 0, none⟩)] w (RetP base g F w (putR p (constT n))) := by
 have c5 := h5.cell 0
 have cn := hb.cell 0
 simp at c5 cn
 have HP := hide h
 have HN := hide hn
 clear h hn h5 hb
 go_enter Tryz.func115, Tryz.ntmps115
 go_wp2_with fail
 refine (const_any n HN.out _ HP.out hbase).mono ?_
 rintro e w1 ⟨rfl, hr⟩
 have HR := hide hr
 clear hr
 go_wp2
 go_ret2
 exact ⟨rfl, HR.out⟩
theorem as1_any (x n : Int) (hx : x = 8 ∨ x = 16 ∨ x = 32 ∨ x = 64) (hn : I64 n) (f : Nat) (r : RS) (hz : zextF f p x n = some r) (b15 b7 bn : Nat) (w : World) (h : PoolAt w base F g p) (hbase : base ≤ w.heap.size) (h15 : Blk w b15 125 #[.pointer (some ⟨g, 0, none⟩)]) (h7 : Blk w b7 30 #[.int .i8 x]) (hb : Blk w bn 3 #[.int .i64 n]) :
  Calls Tryz.prog 117 #[.pointer (some ⟨b15, 0, none⟩), .pointer (some ⟨b7, 0, none⟩), .pointer (some ⟨bn, 0, none⟩)] w (RetP base g F w r) := by
 have c15 := h15.cell 0
 have c7 := h7.cell 0
 have cn := hb.cell 0
 simp at c15 c7 cn
 have HP := hide h
 have HN := hide hn
 have HX := hide hx
 have HZ := hide hz
 clear h hn h15 h7 hb hx hz
 go_enter Tryz.func117, Tryz.ntmps117
 go_wp2_with fail
 refine (zext_any x HX.out f n HN.out _ p r HZ.out _ HP.out hbase).mono ?_
 rintro e w1 ⟨rfl, hr⟩
 have HR := hide hr
 clear hr
 go_wp2
 go_ret2
 exact ⟨rfl, HR.out⟩
end
end Go.Proofs.YtepagfkkjlbipaaGreat
end
section
namespace Go.Proofs.YtepagfkkjlbipaaGreat
open Go.RowKit
set_option linter.unusedVariables false
set_option linter.unusedSimpArgs false
set_option maxRecDepth 100000
/-- What Zext comes to; none: the fuel does not reach. -/
def zextO (f : Nat) (p : PS) (x a : Int) : Option RS := if hasB p.T a = false ∨ wdB x = false then some (p, 0, 2) else zextF f p x a
theorem wd_of {x : Int} (h : wdB x = true) : x = 8 ∨ x = 16 ∨ x = 32 ∨ x = 64 := by unfold wdB at h; simp at h; omega
theorem reads_list (w : World) (e : TypeId) (xs : List Value) (n : Nat) (hn : xs.length = n * 1) : Reads (w.alloc (.cells xs.toArray e)) (w.alloc (.cells xs.toArray e)).heap.size 1 (some ⟨w.heap.size, 0, none⟩) n xs := reads_blk (Blk.new w e xs.toArray) n 1 hn
section
variable {base g : Nat} {F : Nat → Prop} {p : PS}
set_option maxHeartbeats 1000000 in
theorem Zext_any (f : Nat) (x a : Int) (ha : I64 a) (r : RS) (hz : zextO f p x a = some r) (w : World) (h : PoolAt w base F g p) (hbase : base ≤ w.heap.size) :
  Calls Tryz.prog 79 #[.pointer (some ⟨g, 0, none⟩), .int .i8 x, .int .i64 a] w (RetP base g F w r) := by
 have hb0 : Below w.heap.size w (w.alloc (.cells #[.int .i64 a] 3)) := (Below.refl _ w).alloc (Nat.le_refl _) _
 have HP := hide (PG.of_below h hb0)
 have HRD := hide (reads_list w 3 [.int .i64 a] 1 rfl)
 obtain ⟨hb, hhb⟩ : ∃ hb, hasB p.T a = hb := ⟨_, rfl⟩
 obtain ⟨wb, hwb⟩ : ∃ wb, wdB x = wb := ⟨_, rfl⟩
 have HE := hide hz
 unfold zextO at HE
 have HHB := hide hhb
 have HWB := hide hwb
 rw [hhb, hwb] at HE
 have HA := hide ha
 have hbs := Nat.le_trans hbase HP.out.size
 clear h hb0 hz hhb hwb ha
 go_enter Tryz.func79, Tryz.ntmps79
 go_wp2_with fail
 refine (there_any [a] _ 1 1 _ HP.out.pool HRD.out rfl (Nat.le_refl _) (by omega)).mono ?_
 rintro e w1 ⟨rfl, hb1⟩
 have HP1 := hide (HP.out.step hb1)
 clear hb1 HP HRD
 have hbs1 := Nat.le_trans hbase HP1.out.size
 cases hb
 ·rw [show (if [a].all (hasB p.T) = true then (0 : Int) else 2) = 2 by simp [HHB.out]]
  go_wp2
  go_ret2
  have he := HE.out
  rw [if_pos (by simp)] at he
  injection he with he
  rw [← he]
  exact RetP.same HP1.out
 ·rw [show (if [a].all (hasB p.T) = true then (0 : Int) else 2) = 0 by simp [HHB.out]]
  go_wp2_with fail
  refine (width_any x _).mono ?_
  rintro e w2 ⟨rfl, rfl⟩
  rw [HWB.out]
  cases wb
  ·go_wp2
   go_ret2
   have he := HE.out
   rw [if_pos (by simp)] at he
   injection he with he
   rw [← he]
   exact RetP.same HP1.out
  ·have HZ := hide (show zextF f p x a = some r by have he := HE.out; simpa using he)
   go_wp2_with fail
   refine (zext_any x (wd_of HWB.out) f a HA.out _ p r HZ.out _ HP1.out.pool hbs1).mono ?_
   rintro e w3 ⟨rfl, hr⟩
   have HR := hide hr
   clear hr
   go_wp2
   go_ret2
   exact RetP.from HP1.out ⟨rfl, HR.out⟩
end
end Go.Proofs.YtepagfkkjlbipaaGreat
end
