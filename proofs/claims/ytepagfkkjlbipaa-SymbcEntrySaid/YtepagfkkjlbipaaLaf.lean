/-
  symbc in plain words: the machine that goes through a block. Conditions: those written in each statement.
  What puts of terms other than variables keep, norm keeps. Conditions: those written in each statement.
  What commutes is one term either way: operations and conditions. Conditions: those written in each statement.
  The arithmetic of norm's laws. Conditions: those written in each statement.
-/
import Derived.Test.YtepagfkkjlbipaaLae
import Derived.Test.YtepagfkkjlbipaaLab
section
namespace Go.Proofs.Ytepagfkkjlbipaa
open Go.RowKit
set_option linter.unusedVariables false
set_option linter.unusedSimpArgs false
set_option maxRecDepth 100000
/-- What Op comes to, whatever fuel reaches. -/
noncomputable def opV (p : PS) (op x a b : Int) : RS := open Classical in if h : ∃ r, ∃ f, opF f p op x a b = some r then Classical.choose h else (p, 0, 2)
theorem opV_of {f : Nat} {p : PS} {op x a b : Int} {r : RS} (h : opF f p op x a b = some r) : opV p op x a b = r := by
  have hx : ∃ r, ∃ f, opF f p op x a b = some r := ⟨r, f, h⟩
  unfold opV
  rw [dif_pos hx]
  obtain ⟨g, hg⟩ := Classical.choose_spec hx
  have h1 := opF_mono g (g := max f g) p op x a b _ (Nat.le_max_right _ _) hg
  have h2 := opF_mono f (g := max f g) p op x a b _ (Nat.le_max_left _ _) h
  rw [h1] at h2
  exact Option.some.inj h2
theorem opV_some {p : PS} (hw : WfP p) (hr : ∀ t ∈ p.T, t.wf) (op x a b : Int) : ∃ f, opF f p op x a b = some (opV p op x a b) := by
  obtain ⟨f, r, h⟩ := op_some op x p hw hr a b
  exact ⟨f, by rw [opV_of h]; exact h⟩
def zextV (p : PS) (x a : Int) : RS := (zextO (a.toNat + 1) p x a).getD (p, 0, 2)
theorem zextV_some {p : PS} (hw : WfP p) (x a : Int) : zextO (a.toNat + 1) p x a = some (zextV p x a) := by
  obtain ⟨r, h⟩ := zextO_some hw x a
  unfold zextV
  rw [h]
  rfl
def condV (p : PS) (cc x a b : Int) : RS := (condF 2 p cc x a b).getD (p, 0, 2)
theorem condV_some (p : PS) (cc x a b : Int) : condF 2 p cc x a b = some (condV p cc x a b) := by
  obtain ⟨r, h⟩ := cond_some p cc x a b
  unfold condV
  rw [h]
  rfl
/-- An event. -/
structure EvD where
  kind : Int
  size : Int
  a : Int
  v : Int
  num : Int
  args : List Int
deriving DecidableEq
def bringB (e : EvD) : Bool := e.kind == 0 || e.kind == 2
def bringsN (l : List EvD) : Nat := (l.filter bringB).length
/-- An exit. -/
structure ExD where
  kind : Int
  v : Int
  tgt : Int
  els : Int
deriving DecidableEq
/-- The machine: its pool, the registers' terms, the events, the first error. -/
structure SM where
  p : PS
  regs : List Int
  evs : List EvD
  err : Int
def SM.keep (m : SM) (r : RS) : SM × Int := (⟨r.1, m.regs, m.evs, if m.err = 0 then r.2.2 else m.err⟩, r.2.1)
def SM.reg (m : SM) (i : Int) : Int := m.regs.getD i.toNat 0
def SM.set (m : SM) (i n : Int) : SM := { m with regs := m.regs.set i.toNat n }
def SM.event (m : SM) (e : EvD) : SM := { m with evs := m.evs ++ [e] }
def SM.num (m : SM) (n : Int) : SM × Int := m.keep (putR m.p (constT (IntKind.u64.wrap n)))
def SM.next (m : SM) (wide : Int) : SM × Int := m.keep (putR m.p (varT (38 + 3 * (bringsN m.evs : Int)) wide))
def SM.second (m : SM) (x : ID) : SM × Int :=
  if x.byReg = true then (m, m.reg x.src)
  else if x.kind = 0 ∧ shiftsB x.op = true then m.num (bits .and .i64 x.imm (x.width - 1))
  else m.num x.imm
noncomputable def SM.place (m : SM) (reg off : Int) : SM × Int := (m.num off).1.keep (opV (m.num off).1.p 0 64 (m.reg reg) (m.num off).2)
noncomputable def SM.alu (m : SM) (x : ID) : SM :=
  let q := m.second x
  let s := q.1.keep (opV q.1.p x.op x.width (m.reg x.dst) q.2)
  s.1.set x.dst s.2
noncomputable def SM.load (m : SM) (x : ID) : SM :=
  let q := m.place x.src x.off
  let v := q.1.next (8 * x.size)
  (v.1.event ⟨0, x.size, q.2, v.2, 0, []⟩).set x.dst v.2
noncomputable def SM.store (m : SM) (x : ID) : SM :=
  let q := m.place x.dst x.off
  let v := q.1.keep (zextV q.1.p (8 * x.size) (m.reg x.src))
  v.1.event ⟨1, x.size, q.2, v.2, 0, []⟩
/-- r1 to r5 all the same. -/
def fiveL (l : List Int) (n : Int) : List Int := ((((l.set 1 n).set 2 n).set 3 n).set 4 n).set 5 n
def SM.call (m : SM) (x : ID) : SM :=
  let v := m.next 64
  let e := (v.1.event ⟨2, 0, 0, v.2, x.imm, (m.regs.drop 1).take (argsN x.imm).toNat⟩).set 0 v.2
  let z := e.num 0
  { z.1 with regs := fiveL z.1.regs z.2 }
noncomputable def SM.step (m : SM) (x : ID) : SM :=
  if m.err ≠ 0 then m
  else if x.kind = 0 then m.alu x
  else if x.kind = 1 then m.load x
  else if x.kind = 2 then m.store x
  else if x.kind = 5 then m.call x
  else m
noncomputable def SM.go (m : SM) : List ID → SM
  | [] => m
  | x :: r => (m.step x).go r
/-- A condition on two terms: a test of bits asks whether their And is another than nought. -/
noncomputable def SM.ask (m : SM) (cc a b : Int) : SM × Int :=
  if cc = 10 then
    let t := m.keep (opV m.p 5 64 a b)
    let z := t.1.num 0
    z.1.keep (condV z.1.p 1 64 t.2 z.2)
  else m.keep (condV m.p cc 64 a b)
/-- The exit; next: the blocks that are next. -/
noncomputable def SM.ends (m : SM) (x : ID) (next : List Int) : SM × ExD :=
  if x.kind = 6 then (m, ⟨0, m.reg 0, 0, 0⟩)
  else if x.kind = 3 ∧ next.getD 0 0 ≠ next.getD 1 0 then
    let q := m.second x
    let c := q.1.ask x.op (m.reg x.dst) q.2
    (c.1, ⟨2, c.2, next.getD 0 0, next.getD 1 0⟩)
  else (m, ⟨1, 0, next.getD 0 0, 0⟩)
end Go.Proofs.Ytepagfkkjlbipaa
end
section
namespace Go.Proofs.Ytepagfkkjlbipaa
open Go.RowKit
set_option linter.unusedVariables false
set_option linter.unusedSimpArgs false
set_option maxRecDepth 100000
/-- Kept by puts of terms that are no variables. -/
def PutI (I : PS → Prop) : Prop := ∀ (q : PS) (t : TD), t.kind ≠ 1 → I q → I (putP q t)
section
variable {I : PS → Prop}
theorem I_bind {r s : RS} {k : PS → Int → Option RS} (h : I r.1) (hk : ∀ s, k r.1 r.2.1 = some s → I s.1) (hs : bindR r k = some s) : I s.1 := by
  unfold bindR at hs
  split at hs
  · exact hk s hs
  · injection hs with hs
    subst hs
    exact h
theorem const_inv (hI : PutI I) {p : PS} (h : I p) (n : Int) : I (putR p (constT n)).1 := hI p _ (by show (0 : Int) ≠ 1; decide) h
theorem zext_inv (hI : PutI I) : ∀ (f : Nat) {p : PS} {x a : Int} {r : RS}, zextF f p x a = some r → I p → I r.1
  | 0, _, _, _, _, h, _ => by cases h
  | f + 1, p, x, a, r, h, hp => by
    rw [zextF_succ] at h
    split at h
    · injection h with h; subst h; exact hp
    split at h
    · injection h with h; subst h; exact const_inv hI hp _
    split at h
    · injection h with h; subst h; exact hp
    split at h
    · exact zext_inv hI f h hp
    · injection h with h; subst h; exact hI p _ (by show (3 : Int) ≠ 1; decide) hp
theorem operand_inv (hI : PutI I) {p : PS} (h : I p) (x a : Int) : I (operandP p x a).1 := by
  rcases operand_cases p x a with ⟨_, e⟩ | ⟨_, e⟩ | ⟨_, e⟩ <;> rw [e]
  · exact const_inv hI h _
  · exact h
  · exact h
theorem both_inv (hI : PutI I) {p : PS} (h : I p) (x a b : Int) : I (bothP p x a b).1 := by
  have h1 := operand_inv hI h x a
  unfold bothP
  dsimp only
  split
  · exact operand_inv hI h1 x b
  · exact h1
theorem op_inv (hI : PutI I) : ∀ (f : Nat) {p : PS} {op x a b : Int} {r : RS}, opF f p op x a b = some r → I p → I r.1
  | 0, _, _, _, _, _, _, h, _ => by cases h
  | f + 1, p, op, x, a, b, r, h, hp => by
    rw [opF_succ] at h
    split at h
    · injection h with h; subst h; exact hp
    split at h
    · injection h with h; subst h; exact hp
    have h1 := both_inv hI hp x a b
    split at h
    · generalize bothP p x a b = z at h h1
      obtain ⟨p1, a1, b1, e1⟩ := z
      dsimp only at h h1
      unfold opL at h
      dsimp only at h
      split at h
      · injection h with h; subst h; exact const_inv hI h1 _
      split at h
      · exact I_bind (const_inv hI h1 _) (fun s hs => op_inv hI f hs (const_inv hI h1 _)) h
      split at h
      · exact zext_inv hI f h h1
      split at h
      · exact I_bind (const_inv hI h1 _) (fun s hs => op_inv hI f hs (const_inv hI h1 _)) h
      split at h
      · exact op_inv hI f h h1
      split at h
      · exact I_bind (const_inv hI h1 _) (fun s hs => op_inv hI f hs (const_inv hI h1 _)) h
      split at h
      · exact zext_inv hI f h h1
      split at h
      · injection h with h; subst h; exact const_inv hI h1 _
      split at h
      · injection h with h; subst h; exact const_inv hI h1 _
      split at h
      · exact zext_inv hI f h h1
      · injection h with h; subst h; exact hI p1 _ (by show (2 : Int) ≠ 1; decide) h1
    · injection h with h; subst h; exact h1
theorem cond_inv (hI : PutI I) : ∀ (f : Nat) {p : PS} {cc x a b : Int} {r : RS}, condF f p cc x a b = some r → I p → I r.1
  | 0, _, _, _, _, _, _, h, _ => by cases h
  | f + 1, p, cc, x, a, b, r, h, hp => by
    rw [condF_succ] at h
    split at h
    · injection h with h; subst h; exact hp
    split at h
    · injection h with h; subst h; exact hp
    have h1 := both_inv hI hp x a b
    split at h
    · generalize bothP p x a b = z at h h1
      obtain ⟨p1, a1, b1, e1⟩ := z
      dsimp only at h h1
      unfold condL at h
      dsimp only at h
      split at h
      · injection h with h; subst h; exact const_inv hI h1 _
      split at h
      · injection h with h; subst h; exact const_inv hI h1 _
      split at h
      · exact cond_inv hI f h h1
      split at h
      · injection h with h; subst h; exact hI p1 _ (by show (4 : Int) ≠ 1; decide) h1
      · injection h with h; subst h; exact hI p1 _ (by show (4 : Int) ≠ 1; decide) h1
    · injection h with h; subst h; exact h1
end
/-- Variables are the registers', or were brought before the n-th event that brings. -/
def VarsM (n : Nat) (p : PS) : Prop := ∀ t ∈ p.T, t.kind = 1 → t.n < 38 + 3 * (n : Int)
end Go.Proofs.Ytepagfkkjlbipaa
end
section
namespace Go.Proofs.Ytepagfkkjlbipaa
open Go.RowKit
set_option linter.unusedVariables false
set_option linter.unusedSimpArgs false
set_option maxRecDepth 100000
theorem operand_idem {q : PS} (hq : WfP q) (hr : ∀ t ∈ q.T, t.wf) (hz : NZ q) {x a a1 : Int} (hx : x = 32 ∨ x = 64) (ha : hasB q.T a = true) (h : operandP q x a = (q, a1, 0)) : operandP q x a1 = (q, a1, 0) := by
  have hwx : Wd4 x := by unfold Wd4; omega
  rcases operand_cases q x a with ⟨k, e⟩ | ⟨k, e⟩ | ⟨k, e⟩
  · rw [h] at e
    have e1 : putP q (constT (cutV x (atP q.T a).n)) = q := (congrArg Prod.fst e).symm
    have e2 : putN q (constT (cutV x (atP q.T a).n)) = (a1, 0) := (congrArg Prod.snd e).symm
    have hat := put_at (p := q) (t := constT (cutV x (atP q.T a).n)) (by rw [e2])
    rw [e1, e2] at hat
    unfold operandP
    dsimp only
    rw [hat.2, if_pos (show (constT (cutV x (atP q.T a).n)).kind = 0 from rfl)]
    show putR q (constT (cutV x (cutV x (atP q.T a).n))) = _
    rw [cut_cut hwx hwx (atP_wf hr a).2.2.2.1, Int.min_self]
    exact e.symm
  · rw [h] at e
    injection e with _ e
    injection e with e _
    have := hz a ha k
    subst e
    unfold operandP
    dsimp only
    rw [if_neg this.1, if_neg (fun q => this.2 q.2.1)]
  · rw [h] at e
    injection e with _ e
    injection e with e _
    subst e
    exact h
theorem both_of {q : PS} {x a b a1 b1 : Int} (h1 : operandP q x a = (q, a1, 0)) (h2 : operandP q x b = (q, b1, 0)) : bothP q x a b = (q, a1, b1, 0) := by
  unfold bothP
  rw [h1]
  dsimp only
  rw [if_pos rfl, h2]
theorem opF_of {q : PS} {f : Nat} {op x a b a1 b1 : Int} (ha : hasB q.T a = true) (hb : hasB q.T b = true) (hd : doOk op x = true) (h1 : operandP q x a = (q, a1, 0)) (h2 : operandP q x b = (q, b1, 0)) : opF (f + 1) q op x a b = opL (fun q o u v => opF f q o x u v) f q op x a1 b1 := by
  rw [opF_succ, if_neg (by rw [ha, hb]; simp), if_neg (by rw [hd]; simp), both_of h1 h2]
  dsimp only
  rw [if_pos rfl]
end Go.Proofs.Ytepagfkkjlbipaa
end
section
namespace Go.Proofs.Ytepagfkkjlbipaa
open Go.RowKit
set_option linter.unusedVariables false
set_option linter.unusedSimpArgs false
set_option maxRecDepth 100000
theorem cut64 (v : Int) : cutV 64 v = v := by unfold cutV; simp
theorem cut32 (v : Int) : cutV 32 v = v % 4294967296 := by unfold cutV; simp
theorem doU_cut (op : Int) {x : Int} (hx : x = 32 ∨ x = 64) {a b : Int} (ha : U64 a) (hb : U64 b) : doU op x (cutV x a) (cutV x b) = doU op x a b := by
  have hw : Wd4 x := by unfold Wd4; omega
  have e1 : cutV x (cutV x a) = cutV x a := by rw [cut_cut hw hw ha, Int.min_self]
  have e2 : cutV x (cutV x b) = cutV x b := by rw [cut_cut hw hw hb, Int.min_self]
  unfold doU byV
  rw [e1, e2]
theorem doU_cong (op : Int) {x : Int} (hx : x = 32 ∨ x = 64) {a b a' b' : Int} (ha : U64 a) (hb : U64 b) (ha' : U64 a') (hb' : U64 b') (h1 : cutV x a' = cutV x a) (h2 : cutV x b' = cutV x b) : doU op x a' b' = doU op x a b := by
  rw [← doU_cut op hx ha hb, ← doU_cut op hx ha' hb', h1, h2]
section
variable {x a b n d : Int}
theorem law_neg (hx : x = 32 ∨ x = 64) (ha : U64 a) : doU 1 x 0 a = doU 8 x a b := by
  unfold U64 at ha
  unfold doU doV
  rcases hx with rfl | rfl
  · simp [cut32, IntKind.wrap_u64]
  · simp [cut64, IntKind.wrap_u64]
theorem law_mov (hx : x = 32 ∨ x = 64) (hb : U64 b) : cutV x b = doU 11 x a b := by
  have hw : Wd4 x := by unfold Wd4; omega
  unfold doU doV
  simp
  rw [cut_cut hw hw hb, Int.min_self]
theorem law_sub (hx : x = 32 ∨ x = 64) (ha : U64 a) (hb : U64 b) : doU 0 x a (cutV x (IntKind.u64.wrap (-b))) = doU 1 x a b := by
  unfold U64 at ha hb
  unfold doU doV
  rcases hx with rfl | rfl
  · simp [cut32, IntKind.wrap_u64]; omega
  · simp [cut64, IntKind.wrap_u64]; omega
theorem law_assoc (hx : x = 32 ∨ x = 64) (ha : U64 a) (hn : U64 n) (hb : U64 b) : doU 0 x a (cutV x (IntKind.u64.wrap (n + b))) = doU 0 x (doU 0 x a n) b := by
  unfold U64 at ha hb hn
  unfold doU doV
  rcases hx with rfl | rfl
  · simp [cut32, IntKind.wrap_u64]; omega
  · simp [cut64, IntKind.wrap_u64]; omega
theorem bv_nat {a : Int} (ha : U64 a) : (BitVec.ofInt 64 a).toNat = a.toNat := by
  unfold U64 at ha
  rw [BitVec.toNat_ofInt]
  omega
theorem wrap_nat {a : Int} (ha : U64 a) : IntKind.u64.wrap ((a.toNat : Nat) : Int) = a := by
  unfold U64 at ha
  rw [IntKind.wrap_u64]
  omega
theorem bits_or0 (ha : U64 a) : bits .or .u64 a 0 = a := by
  unfold bits
  dsimp only
  show IntKind.u64.wrap (((BitVec.ofInt 64 a ||| 0#64).toNat : Nat) : Int) = a
  rw [BitVec.or_zero, bv_nat ha, wrap_nat ha]
theorem bits_xor0 (ha : U64 a) : bits .xor .u64 a 0 = a := by
  unfold bits
  dsimp only
  show IntKind.u64.wrap (((BitVec.ofInt 64 a ^^^ 0#64).toNat : Nat) : Int) = a
  rw [BitVec.xor_zero, bv_nat ha, wrap_nat ha]
theorem bits_and0 : bits .and .u64 a 0 = 0 := by
  unfold bits
  dsimp only
  show IntKind.u64.wrap (((BitVec.ofInt 64 a &&& 0#64).toNat : Nat) : Int) = 0
  rw [BitVec.and_zero]
  rfl
theorem bits_xorS : bits .xor .u64 a a = 0 := by
  unfold bits
  dsimp only
  rw [BitVec.xor_self]
  rfl
theorem bits_andS (ha : U64 a) : bits .and .u64 a a = a := by
  unfold bits
  dsimp only
  rw [BitVec.and_self]
  show IntKind.u64.wrap (((BitVec.ofInt 64 a).toNat : Nat) : Int) = a
  rw [bv_nat ha, wrap_nat ha]
theorem bits_orS (ha : U64 a) : bits .or .u64 a a = a := by
  unfold bits
  dsimp only
  rw [BitVec.or_self]
  show IntKind.u64.wrap (((BitVec.ofInt 64 a).toNat : Nat) : Int) = a
  rw [bv_nat ha, wrap_nat ha]
theorem wraps_u64' (n : Int) (h0 : 0 ≤ n) (h1 : n < 2 ^ 64) : IntKind.u64.wrap n = n := by rw [IntKind.wrap_u64]; omega
theorem law_nil (hx : x = 32 ∨ x = 64) {op : Int} (h : nilB op d = true) : doU op x a d = 0 := by
  unfold nilB at h
  simp at h
  obtain ⟨rfl, h⟩ := h
  have h0 : cutV x 0 = 0 := by rcases hx with rfl | rfl <;> simp [cut32, cut64]
  unfold doU
  rw [h0]
  unfold doV
  rcases h with rfl | rfl | rfl
  · simp [IntKind.wrap_u64, h0]
  · simp [bits_and0, h0]
  · simp [h0]
theorem law_self (hx : x = 32 ∨ x = 64) {op : Int} (h : op = 1 ∨ op = 10) : doU op x a a = 0 := by
  have h0 : cutV x 0 = 0 := by rcases hx with rfl | rfl <;> simp [cut32, cut64]
  unfold doU doV
  rcases h with rfl | rfl
  · simp [IntKind.wrap_u64, h0]
  · simp [bits_xorS, h0]
theorem law_and (hx : x = 32 ∨ x = 64) (ha : U64 a) {op : Int} (h : op = 5 ∨ op = 4) : doU op x a a = cutV x a := by
  have hw : Wd4 x := by unfold Wd4; omega
  have hc := cutV_u64 (x := x) ha
  unfold doU doV
  rcases h with rfl | rfl
  · simp [bits_andS hc]
    rw [cut_cut hw hw ha, Int.min_self]
  · simp [bits_orS hc]
    rw [cut_cut hw hw ha, Int.min_self]
/-- A constant on the right that changes nothing. -/
theorem law_same (hx : x = 32 ∨ x = 64) (ha : U64 a) (hd : U64 d) {op : Int} (h : sameB op x d = true) : doU op x a d = cutV x a := by
  have hw : Wd4 x := by unfold Wd4; omega
  have hc := cutV_u64 (x := x) ha
  have hcc : cutV x (cutV x a) = cutV x a := by rw [cut_cut hw hw ha, Int.min_self]
  have h0 : cutV x 0 = 0 := by rcases hx with rfl | rfl <;> simp [cut32, cut64]
  have hcu := hc
  unfold U64 at hcu
  have hwr : IntKind.u64.wrap (cutV x a) = cutV x a := by rw [IntKind.wrap_u64]; omega
  unfold sameB at h
  simp only [Bool.or_eq_true, Bool.and_eq_true] at h
  rcases h with ⟨hd0, h⟩ | ⟨hs, hm⟩ | h
  · have hd0 : d = 0 := by simpa using hd0
    subst hd0
    unfold doU
    rw [h0]
    unfold doV
    simp at h
    rcases h with rfl | rfl | rfl | rfl
    · simp [hwr, hcc]
    · simp [bits_or0 hc, hcc]
    · simp [bits_xor0 hc, hcc]
    · simp [hcc]
  · have hby : byV x d = 0 := by
      rw [byV_eq hx hd]
      have hm : bits .and .u64 d (x - 1) = 0 := by simpa using hm
      unfold U64 at hd
      rcases hx with rfl | rfl
      · have := bits_mask .u64 64 (by decide) wraps_u64' 5 (by decide) d hd.1 (by omega)
        rw [show (2 : Int) ^ 5 - 1 = 32 - 1 by decide, hm] at this
        rw [cut32]
        omega
      · have := bits_mask .u64 64 (by decide) wraps_u64' 6 (by decide) d hd.1 (by omega)
        rw [show (2 : Int) ^ 6 - 1 = 64 - 1 by decide, hm] at this
        rw [cut64]
        omega
    unfold doU
    rw [hby]
    unfold doV
    unfold shiftsB at hs
    simp at hs
    rcases hs with rfl | rfl | rfl
    · simp [hwr, hcc]
    · simp [hcc]
    · simp
      unfold signU wrap64
      rcases hx with rfl | rfl
      · rw [cut32] at hcu
        simp [IntKind.wrap_u64, IntKind.wrap_i32, cut32, wrap32] <;> omega
      · rw [cut64] at hcu
        simp [IntKind.wrap_u64, cut64] <;> omega
  · simp at h
    rcases h with ⟨rfl, rfl⟩ | ⟨rfl, rfl⟩
    · unfold doU doV
      rcases hx with rfl | rfl
      · unfold U64 at ha
        simp [cut32, IntKind.wrap_u64] <;> omega
      · unfold U64 at ha
        simp [cut64, IntKind.wrap_u64] <;> omega
    · unfold doU doV
      simp
      unfold U64 at ha
      rcases hx with rfl | rfl
      · have := bits_mask .u64 64 (by decide) wraps_u64' 32 (by decide) (cutV 32 a) hcu.1 (by omega)
        rw [show cutV 32 (cutV 32 18446744073709551615) = 2 ^ 32 - 1 by decide, this, cut32, cut32]
        omega
      · have := bits_mask .u64 64 (by decide) wraps_u64' 64 (by decide) (cutV 64 a) hcu.1 (by omega)
        rw [show cutV 64 (cutV 64 18446744073709551615) = 2 ^ 64 - 1 by decide, this, cut64, cut64]
        omega
end
end Go.Proofs.Ytepagfkkjlbipaa
end
