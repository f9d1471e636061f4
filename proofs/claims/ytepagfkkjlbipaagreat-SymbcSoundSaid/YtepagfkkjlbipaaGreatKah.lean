/-
  Parts of the proof of SymbcSound. Conditions: those written in each statement.
-/
import Derived.Test.YtepagfkkjlbipaaGreatKaf
import Derived.Laws.Tables
import Derived.Laws.StructEq
import Derived.Laws.EntriesVeiled
set_option linter.unusedVariables false
set_option linter.unusedSimpArgs false
set_option maxHeartbeats 64000000
set_option maxRecDepth 100000
namespace Go.Proofs.YtepagfkkjlbipaaGreat
open Tryz
section
open Go.RowKit
theorem width_any (x : Int) (w : World) : Calls prog 137 #[.int .i8 x] w fun e w' => e = .returned (.bool (wdB x)) ∧ w = w' := by
 cases h8 : (x == 8)
 ·cases h16 : (x == 16)
  ·cases h32 : (x == 32)
   ·cases h64 : (x == 64)
    all_goals
     go_enter func137, ntmps137
     go_wp2
     go_ret
     exact ⟨by unfold wdB; simp [h8, h16, h32, h64], rfl⟩
   ·go_enter func137, ntmps137
    go_wp2
    go_ret
    exact ⟨by unfold wdB; simp [h8, h16, h32], rfl⟩
  ·go_enter func137, ntmps137
   go_wp2
   go_ret
   exact ⟨by unfold wdB; simp [h8, h16], rfl⟩
 ·go_enter func137, ntmps137
  go_wp2
  go_ret
  exact ⟨by unfold wdB; simp [h8], rfl⟩
section
variable {w : World} {base g : Nat} {F : Nat → Prop} {p : PS}
theorem has_any (k : Int) (h : PoolAt w base F g p) : Calls prog 106 #[.pointer (some ⟨g, 0, none⟩), .int .i64 k] w fun e w' => e = .returned (.bool (hasB p.T k)) ∧ w = w' := by
 obtain ⟨A, c, D, d, h1, h2, _, h4, h5, _⟩ := h.view
 have hf := h.few
 obtain ⟨n, hn⟩ : ∃ n, p.T.length = n := ⟨_, rfl⟩
 have HB := Hd (show hasB p.T k = (decide (0 ≤ k) && decide (k < (n : Int))) by unfold hasB; rw [hn])
 rw [hn] at h1 h2 hf
 clear hn h h4 h5
 cases hk : decide (0 ≤ k)
 ·have hk2 : decide (k < 0) = true := by simp at hk ⊢; omega
  go_enter func106, ntmps106
  go_wp2
  go_ret
  exact ⟨by rw [HB.out, hk]; rfl, rfl⟩
 ·go_enter func106, ntmps106
  go_wp2
  go_ret
  exact ⟨by rw [HB.out, hk]; rfl, rfl⟩
theorem len_any (h : PoolAt w base F g p) : Calls prog 42 #[.pointer (some ⟨g, 0, none⟩)] w fun e w' => e = .returned (.int .i64 (p.T.length : Nat)) ∧ w = w' := by
 obtain ⟨A, c, D, d, h1, h2, _, h4, h5, _⟩ := h.view
 obtain ⟨n, hn⟩ : ∃ n, p.T.length = n := ⟨_, rfl⟩
 rw [hn] at h1 h2 ⊢
 clear hn h h4 h5
 go_enter func42, ntmps42
 go_wp2
 go_ret
 exact ⟨rfl, rfl⟩
def zeroT : TD := ⟨0, 0, 0, 0, 0, 0, 0⟩
theorem get_none {k : Int} (h : PoolAt w base F g p) (hk : hasB p.T k = false) : Calls prog 95 #[.pointer (some ⟨g, 0, none⟩), .int .i64 k] w fun e w' => e = .returned (.tuple #[termV zeroT, .int .i64 2]) ∧ Below w.heap.size w w' := by
 have H := Hd h
 have HH := Hd hk
 clear h hk
 go_enter func95, ntmps95
 go_wp2_with fail
 refine (has_any k (H.out.below ((Below.refl _ _).alloc (Nat.le_refl _) _))).mono ?_
 rintro e w' ⟨rfl, rfl⟩
 rw [HH.out]
 go_wp2
 exact bodyPost_ret (v := .tuple #[termV zeroT, .int .i64 2]) (by simp [results, results95, go_sem, termV, zeroT, TD.cells]) rfl ⟨rfl, (Below.refl _ _).alloc (Nat.le_refl _) _⟩
end
theorem sizT : (prog.info? 147).map (·.size) = some 7 := by kernel_rfl
abbrev TD.lit (t : TD) : List Value := [.int .i8 t.kind, .int .i8 t.op, .int .i8 t.w, .int .u64 t.n, .int .i64 t.a, .int .i64 t.b, .int .i64 t.c]
section
variable {w : World} {base g : Nat} {F : Nat → Prop} {p : PS}
theorem get_any {k : Nat} {t : TD} (h : PoolAt w base F g p) (ht : p.T[k]? = some t) : Calls prog 95 #[.pointer (some ⟨g, 0, none⟩), .int .i64 k] w fun e w' => e = .returned (.tuple #[termV t, .int .i64 0]) ∧ Below w.heap.size w w' := by
 have hk : k < p.T.length := (List.getElem?_eq_some_iff.1 ht).1
 have H1 := h.below ((Below.refl _ _).alloc (Nat.le_refl _) (.cells #[.int .i8 0, .int .i8 0, .int .i8 0, .int .u64 0, .int .i64 0, .int .i64 0, .int .i64 0] 147))
 obtain ⟨ad, c, dd, d, t', x', h1, h2, _, _, _, _, ht', _, _, _, _, hc, _⟩ := H1.at_ hk
 obtain rfl : t = t' := by rw [ht] at ht'; exact Option.some.inj ht'
 have H := Hd H1
 have hh : hasB p.T k = true := by unfold hasB; simp; exact hk
 have HH := Hd hh
 have hf := h.few
 obtain ⟨n, hn⟩ : ∃ n, p.T.length = n := ⟨_, rfl⟩
 rw [hn] at h1 h2 hk hf
 have HC := Hd hc
 clear hn h ht' ht hh H1 hc
 have hkd : k < c := by omega
 go_enter func95, ntmps95
 go_wp2_with fail
 refine (has_any k H.out).mono ?_
 rintro e w' ⟨rfl, rfl⟩
 rw [HH.out]
 go_wp2_with (first
  | (refine wpList_load_at rfl 147 (.tmp 21) rfl (ad.add (k * 7)) (by rfl) t.lit _ HC.out underlying147 rfl sizT ?_)
  | fail)
 exact bodyPost_ret (v := .tuple #[termV t, .int .i64 0]) (by simp [results, results95, go_sem, termV, TD.cells]) rfl ⟨rfl, ((Below.refl _ _).alloc (Nat.le_refl _) _)⟩
end
theorem build_pool (a b : Option Nat) (w : World) : (Instr.build 102 #[(2, .map a), (3, .map b)]).run prog w = .ok (.agg #[.slice none 0 0, .slice none 0 0, .map a, .map b]) w := run_build w 102 _ _ (by kernel_rfl)
theorem pool_new (w : World) : PoolAt (((w.alloc (.map #[] 0)).alloc (.map #[] 0)).alloc (.cells #[.slice none 0 0, .slice none 0 0, .map (some w.heap.size), .map (some (w.heap.size + 1))] 102)) w.heap.size (fun b => w.heap.size ≤ b ∧ b < w.heap.size + 3) (w.heap.size + 2) ⟨[], []⟩ := by
 have e1 : (w.alloc (.map #[] 0)).heap.size = w.heap.size + 1 := by simp
 have e2 : ((w.alloc (.map #[] 0)).alloc (.map #[] 0)).heap.size = w.heap.size + 2 := by simp
 have m1 : MapIs prog 147 termV TD.wf (w.alloc (.map #[] 0)) w.heap.size 0 (fun _ => none) := MapIs.new w
 have m2 : MapIs prog 31 (Value.int .u64) U64 ((w.alloc (.map #[] 0)).alloc (.map #[] 0)) (w.heap.size + 1) 0 (fun _ => none) := by
  have := MapIs.new (P := prog) (k := 31) (enc := Value.int .u64) (V := U64) (w.alloc (.map #[] 0))
  rw [e1] at this
  exact this
 have b3 := Blk.new ((w.alloc (.map #[] 0)).alloc (.map #[] 0)) 102 #[.slice none 0 0, .slice none 0 0, .map (some w.heap.size), .map (some (w.heap.size + 1))]
 rw [e2] at b3
 have s1 := Stamped.new w
 refine ⟨⟨.slice none 0 0, .slice none 0 0, w.heap.size, w.heap.size + 1, b3, ⟨rfl, .inl ⟨rfl, rfl⟩⟩, ⟨rfl, .inl ⟨rfl, rfl⟩⟩, (m1.alloc _).alloc _, m2.alloc _, ?_, by omega, ?_, ?_, ?_, ?_, ?_⟩, WfP.nil, by simp, fun b hb => by simp; omega⟩
 ·exact s1.block_ (by rw [Below.heap_alloc _ _ _ (by simp; omega), Below.heap_alloc _ _ _ (by simp)])
 ·omega
 ·omega
 ·omega
 ·intro b hb; simp [Value.ownBlock] at hb
 ·intro b hb; simp [Value.ownBlock] at hb
theorem new_any (w : World) : Calls prog 11 #[] w fun e w' => ∃ g F, e = .returned (.pointer (some ⟨g, 0, none⟩)) ∧ PoolAt w' w.heap.size F g ⟨[], []⟩ ∧ Below w.heap.size w w' := by
 have hbd := fun (a b : Option Nat) (w : World) => build_pool a b w
 have hm1 : ∀ w : World, (Instr.makeMap 98 none).run prog w = .ok (.map (some w.heap.size)) (w.alloc (.map #[] 0)) := fun _ => rfl
 have hm2 : ∀ w : World, (Instr.makeMap 99 none).run prog w = .ok (.map (some w.heap.size)) (w.alloc (.map #[] 0)) := fun _ => rfl
 go_enter func11, ntmps11
 go_wp2
 go_ret
 refine ⟨w.heap.size + 2, _, ?_, pool_new w, (((Below.refl _ _).alloc (Nat.le_refl _) _).alloc (by simp) _).alloc (by simp; omega) _⟩
 rfl
end
section
abbrev RS := PS × Int × Int
def putR (p : PS) (t : TD) : RS := (putP p t, (putN p t).1, (putN p t).2)
def atP (T : List TD) (n : Int) : TD := if hasB T n = true then T.getD n.toNat zeroT else zeroT
def constT (n : Int) : TD := ⟨0, 0, 0, n, 0, 0, 0⟩
def cutV (w v : Int) : Int := if w = 8 then v % 256 else if w = 16 then v % 65536 else if w = 32 then v % 4294967296 else v
def longB (w : Int) : Bool := w == 32 || w == 64
def narrowP (T : List TD) (n w : Int) : Bool :=
 let t := atP T n
 if w = 64 ∨ t.kind = 4 then true
 else if t.kind = 0 then decide (t.n = cutV w t.n)
 else if t.kind = 3 ∨ t.kind = 1 then decide (t.w ≤ w)
 else decide (t.kind = 2 ∧ t.w = 32 ∧ w = 32)
def zextF : Nat → PS → Int → Int → Option RS
 | 0, _, _, _ => none
 | f + 1, p, w, a =>
  let t := atP p.T a
  if w = 64 then some (p, a, 0)
  else if t.kind = 0 then some (putR p (constT (cutV w t.n)))
  else if narrowP p.T a w = true then some (p, a, 0)
  else if t.kind = 3 then zextF f p w t.a
  else some (putR p ⟨3, 0, w, 0, a, 0, 0⟩)
def operandP (p : PS) (w a : Int) : RS :=
 let t := atP p.T a
 if t.kind = 0 then putR p (constT (cutV w t.n))
 else if w = 32 ∧ t.kind = 3 ∧ t.w = 32 then (p, t.a, 0)
 else (p, a, 0)
def bothP (p : PS) (w a b : Int) : PS × Int × Int × Int :=
 let r := operandP p w a
 if r.2.2 = 0 then let s := operandP r.1 w b; (s.1, r.2.1, s.2.1, s.2.2) else (r.1, r.2.1, 0, r.2.2)
end
section
open Go.RowKit
theorem flatTm : flatK prog 4 147 = some [some .i8, some .i8, some .i8, some .u64, some .i64, some .i64, some .i64] := by kernel_rfl
theorem okTm : eqOk prog 4 147 = true := by kernel_rfl
theorem aggTm : aggT prog 147 = true := by kernel_rfl
theorem tm_all {x : TD} (h : x.wf) : AllK [some .i8, some .i8, some .i8, some .u64, some .i64, some .i64, some .i64] x.cells := by
 obtain ⟨h0, h1, h2, h3, h4, h5, h6⟩ := h
 refine ⟨rfl, fun i k v hk hv => ?_⟩
 match i with
 | 0 => simp [TD.cells] at hk hv; subst hk hv; exact ⟨_, rfl, wf_i8 h0⟩
 | 1 => simp [TD.cells] at hk hv; subst hk hv; exact ⟨_, rfl, wf_i8 h1⟩
 | 2 => simp [TD.cells] at hk hv; subst hk hv; exact ⟨_, rfl, wf_i8 h2⟩
 | 3 => simp [TD.cells] at hk hv; subst hk hv; exact ⟨_, rfl, wf_u64 h3⟩
 | 4 => simp [TD.cells] at hk hv; subst hk hv; exact ⟨_, rfl, wf_i64 h4⟩
 | 5 => simp [TD.cells] at hk hv; subst hk hv; exact ⟨_, rfl, wf_i64 h5⟩
 | 6 => simp [TD.cells] at hk hv; subst hk hv; exact ⟨_, rfl, wf_i64 h6⟩
 | i + 7 => simp at hk
theorem eqL_tm {x y : TD} (hx : x.wf) (hy : y.wf) : eqL x.cells y.cells = decide (x = y) := by
 have := eqL_iff _ _ _ (tm_all hx) (tm_all hy)
 rw [Bool.eq_iff_iff, this]
 simp only [decide_eq_true_eq]
 exact ⟨TD.cells_inj, fun h => by rw [h]⟩
theorem eql_tm {x y : TD} (hx : x.wf) (hy : y.wf) (w : World) : (binOp .eql 147 (.agg x.cells.toArray) (.agg y.cells.toArray)).run prog w = .ok (.bool (decide (x = y))) w := by
 rw [run_eql_flat (by omega) flatTm okTm aggTm (tm_all hx) (tm_all hy) w, eqL_tm hx hy]
theorem eql_tmG {x y : TD} (hx : x.wf) (hy : y.wf) (p q : Operand) (w : World) : (do eqGuard .eql 147 p q (.agg x.cells.toArray) (.agg y.cells.toArray); binOp .eql 147 (.agg x.cells.toArray) (.agg y.cells.toArray) : Sem Value).run prog w = .ok (.bool (decide (x = y))) w := by
 have := eql_tm hx hy w
 simp only [Sem.run_bind]
 rw [show (eqGuard .eql 147 p q (.agg x.cells.toArray) (.agg y.cells.toArray)).run prog w = .ok () w from run_eqGuard_agg (w := w) .eql 147 p q _ _ eqGuardType147]
 exact this
end
section
open Go.RowKit
section
variable {W : World} {b1 b2 s1 s2 n1 n2 m : Nat} {e1 e2 : TypeId} {v1 v2 : Value} {xs ys : List Value}
theorem own_own_ne (h : W.ownsRow b1 e1 s1 v1 n1 xs) (h2 : W.ownsRow b2 e2 s2 v2 n2 ys) (hne : e1 ≠ e2) {r : Nat} (h3 : v1.ownBlock = some r) : v2.ownBlock ≠ some r := by
 intro h4
 rcases h.2 with ⟨q, _⟩ | ⟨g, cap, cur, q1, _, q3, _⟩
 ·rw [q] at h3; simp [Value.ownBlock] at h3
 ·rcases h2.2 with ⟨q, _⟩ | ⟨g', cap', cur', r1, _, r3, _⟩
  ·rw [q] at h4; simp [Value.ownBlock] at h4
  ·rw [q1] at h3
   rw [r1] at h4
   simp [Value.ownBlock] at h3 h4
   rw [h3] at q3
   rw [h4, q3] at r3
   injection r3 with r3
   injection r3 with _ r3
   exact hne r3
theorem own_map_ne {κ : Type} {P : Program} {k : TypeId} {enc : κ → Value} {V : κ → Prop} {f : κ → Option Value} (h : W.ownsRow b1 e1 s1 v1 n1 xs) (h2 : MapIs P k enc V W b2 m f) : v1.ownBlock ≠ some b2 := by
 intro h3
 obtain ⟨es, c, h4, _⟩ := h2
 rcases h.2 with ⟨q, _⟩ | ⟨g, cap, cur, q1, _, q3, _⟩
 ·rw [q] at h3; simp [Value.ownBlock] at h3
 ·rw [q1] at h3
  simp [Value.ownBlock] at h3
  rw [h3, h4] at q3
  injection q3 with q3
  cases q3
theorem blk_map_ne {κ : Type} {P : Program} {k : TypeId} {enc : κ → Value} {V : κ → Prop} {f : κ → Option Value} {g : Nat} {t : TypeId} {cs : Array Value} (h : Blk W g t cs) (h2 : MapIs P k enc V W b2 m f) : g ≠ b2 := by
 rintro rfl
 obtain ⟨es, c, h4, _⟩ := h2
 unfold Blk at h
 rw [h] at h4
 injection h4 with h4
 cases h4
end
theorem reads_blk {W : World} {g : Nat} {e : TypeId} {xs : List Value} (h : Blk W g e xs.toArray) (n size : Nat) (hn : xs.length = n * size) : Reads W W.heap.size size (some ⟨g, 0, none⟩) n xs :=
 ⟨hn, fun _ => ⟨_, rfl, h.lt, blk_list h⟩⟩
structure RF (base g bt o v : Nat) (F : Nat → Prop) (p : PS) (t : TD) (w : World) (a0 a1 x y : Value) (nx ny m : Nat) (xs ys : List Value) (fo : TD → Option Value) (mw : Nat) (fw : Int → Option Value) (W : World) : Prop where
 box : Blk W bt 147 t.cells.toArray
 pool : Blk W g 102 #[a0, a1, .map (some o), .map (some v)]
 rx : W.ownsRow base 147 7 x nx xs
 ry : W.ownsRow base 3 1 y ny ys
 mo : MapIs prog 147 termV TD.wf W o m fo
 mv : MapIs prog 31 (Value.int .u64) U64 W v mw fw
 st : Stamped W o
 chg : Chg F w W
 ox : ∀ b, x.ownBlock = some b → F b ∨ w.heap.size < b
 oy : ∀ b, y.ownBlock = some b → F b ∨ w.heap.size < b
 fg : F g
 fo_ : F o
 fv : F v
 bt : bt = w.heap.size
 old : ∀ b, F b → b < w.heap.size
 ov : o ≠ v ∧ w.cell? ⟨g, 2, none⟩ = some (.map (some o)) ∧ w.cell? ⟨g, 3, none⟩ = some (.map (some v))
section
variable {base g bt o v nx ny m : Nat} {F : Nat → Prop} {p : PS} {t : TD} {w W V : World} {a0 a1 x y : Value} {xs ys : List Value} {fo : TD → Option Value} {mw : Nat} {fw : Int → Option Value}
theorem RF.lt (h : RF base g bt o v F p t w a0 a1 x y nx ny m xs ys fo mw fw W) : w.heap.size < W.heap.size := by have := h.box.lt; rw [h.bt] at this; exact this
theorem RF.step (h : RF base g bt o v F p t w a0 a1 x y nx ny m xs ys fo mw fw W) (hb : Below W.heap.size W V) : RF base g bt o v F p t w a0 a1 x y nx ny m xs ys fo mw fw V where
 box := h.box.below hb h.box.lt
 pool := h.pool.below hb h.pool.lt
 rx := own_block h.rx fun r q => hb.block r (own_ge h.rx r q).2
 ry := own_block h.ry fun r q => hb.block r (own_ge h.ry r q).2
 mo := h.mo.below hb h.mo.lt
 mv := h.mv.below hb h.mv.lt
 st := h.st.block_ (hb.block o h.mo.lt)
 chg := h.chg.trans (Chg.of_below (F := fun _ => False) hb) (fun _ q => q.elim)
 ox := h.ox
 oy := h.oy
 fg := h.fg
 fo_ := h.fo_
 fv := h.fv
 bt := h.bt
 old := h.old
 ov := h.ov
theorem RF.g_bt (h : RF base g bt o v F p t w a0 a1 x y nx ny m xs ys fo mw fw W) : g ≠ bt := by have := h.old g h.fg; rw [h.bt]; omega
theorem RF.appx {x' : Value} {n' : Nat} {xs' : List Value} (h : RF base g bt o v F p t w a0 a1 x y nx ny m xs ys fo mw fw W) (hx : ∀ b, x.ownBlock = some b → F b) (hr : V.ownsRow base 147 7 x' n' xs') (hg : W.grownBy V x.ownBlock) (hb : x'.ownBlock = x.ownBlock ∨ x'.ownBlock = some W.heap.size) :
  RF base g bt o v F p t w a0 a1 x' y n' ny m xs' ys fo mw fw V where
 box := h.box.grown hg fun e => by have := h.old _ (hx _ e.symm); rw [h.bt] at this; omega
 pool := h.pool.grown hg fun e => own_blk_ne h.rx h.pool (by decide) e.symm
 rx := hr
 ry := own_block h.ry fun r q => hg.block r (own_ge h.ry r q).2 fun e => own_own_ne h.rx h.ry (by decide) e.symm q
 mo := h.mo.grown hg fun e => own_map_ne h.rx h.mo e.symm
 mv := h.mv.grown hg fun e => own_map_ne h.rx h.mv e.symm
 st := h.st.block_ (hg.block o h.mo.lt fun e => own_map_ne h.rx h.mo e.symm)
 chg := h.chg.trans (Chg.of_grown (F := F) hg fun r e => .inl (hx r e)) fun b q => .inl q
 ox := fun b q => by
  rcases hb with e | e
  ·rw [e] at q; exact h.ox b q
  ·rw [e] at q; injection q with q; have := h.lt; exact .inr (by omega)
 oy := h.oy
 fg := h.fg
 fo_ := h.fo_
 fv := h.fv
 bt := h.bt
 old := h.old
 ov := h.ov
theorem RF.appy {y' : Value} {n' : Nat} {ys' : List Value} (h : RF base g bt o v F p t w a0 a1 x y nx ny m xs ys fo mw fw W) (hy : ∀ b, y.ownBlock = some b → F b) (hr : V.ownsRow base 3 1 y' n' ys') (hg : W.grownBy V y.ownBlock) (hb : y'.ownBlock = y.ownBlock ∨ y'.ownBlock = some W.heap.size) :
  RF base g bt o v F p t w a0 a1 x y' nx n' m xs ys' fo mw fw V where
 box := h.box.grown hg fun e => by have := h.old _ (hy _ e.symm); rw [h.bt] at this; omega
 pool := h.pool.grown hg fun e => own_blk_ne h.ry h.pool (by decide) e.symm
 rx := own_block h.rx fun r q => hg.block r (own_ge h.rx r q).2 fun e => own_own_ne h.ry h.rx (by decide) e.symm q
 ry := hr
 mo := h.mo.grown hg fun e => own_map_ne h.ry h.mo e.symm
 mv := h.mv.grown hg fun e => own_map_ne h.ry h.mv e.symm
 st := h.st.block_ (hg.block o h.mo.lt fun e => own_map_ne h.ry h.mo e.symm)
 chg := h.chg.trans (Chg.of_grown (F := F) hg fun r e => .inl (hy r e)) fun b q => .inl q
 ox := h.ox
 oy := fun b q => by
  rcases hb with e | e
  ·rw [e] at q; exact h.oy b q
  ·rw [e] at q; injection q with q; have := h.lt; exact .inr (by omega)
 fg := h.fg
 fo_ := h.fo_
 fv := h.fv
 bt := h.bt
 old := h.old
 ov := h.ov
theorem RF.set {b0 b1 : Value} (h : RF base g bt o v F p t w a0 a1 x y nx ny m xs ys fo mw fw W) (hB : Blk V g 102 #[b0, b1, .map (some o), .map (some v)]) (hg : W.grownBy V (some g)) : RF base g bt o v F p t w b0 b1 x y nx ny m xs ys fo mw fw V where
 box := h.box.grown hg fun e => by injection e with e; exact h.g_bt e.symm
 pool := hB
 rx := own_block h.rx fun r q => hg.block r (own_ge h.rx r q).2 fun e => by injection e with e; subst e; exact own_blk_ne h.rx h.pool (by decide) q
 ry := own_block h.ry fun r q => hg.block r (own_ge h.ry r q).2 fun e => by injection e with e; subst e; exact own_blk_ne h.ry h.pool (by decide) q
 mo := h.mo.grown hg fun e => by injection e with e; exact blk_map_ne h.pool h.mo e.symm
 mv := h.mv.grown hg fun e => by injection e with e; exact blk_map_ne h.pool h.mv e.symm
 st := h.st.block_ (hg.block o h.mo.lt fun e => by injection e with e; exact blk_map_ne h.pool h.mo e.symm)
 chg := h.chg.trans (Chg.of_grown (F := F) hg fun r e => by injection e with e; subst e; exact .inl h.fg) fun b q => .inl q
 ox := h.ox
 oy := h.oy
 fg := h.fg
 fo_ := h.fo_
 fv := h.fv
 bt := h.bt
 old := h.old
 ov := h.ov
theorem RF.mapo {m' : Nat} {f' : TD → Option Value} (h : RF base g bt o v F p t w a0 a1 x y nx ny m xs ys fo mw fw W) (hm : MapIs prog 147 termV TD.wf V o m' f') (hs : Stamped V o) (hg : W.grownBy V (some o)) : RF base g bt o v F p t w a0 a1 x y nx ny m' xs ys f' mw fw V where
 box := h.box.grown hg fun e => by injection e with e; exact blk_map_ne h.box h.mo e
 pool := h.pool.grown hg fun e => by injection e with e; exact blk_map_ne h.pool h.mo e
 rx := own_block h.rx fun r q => hg.block r (own_ge h.rx r q).2 fun e => by injection e with e; subst e; exact own_map_ne h.rx h.mo q
 ry := own_block h.ry fun r q => hg.block r (own_ge h.ry r q).2 fun e => by injection e with e; subst e; exact own_map_ne h.ry h.mo q
 mo := hm
 mv := h.mv.grown hg fun e => by injection e with e; exact h.ov.1 e.symm
 st := hs
 chg := h.chg.trans (Chg.of_grown (F := F) hg fun r e => by injection e with e; subst e; exact .inl h.fo_) fun b q => .inl q
 ox := h.ox
 oy := h.oy
 fg := h.fg
 fo_ := h.fo_
 fv := h.fv
 bt := h.bt
 old := h.old
 ov := h.ov
theorem RF.mapv {m' : Nat} {f' : Int → Option Value} (h : RF base g bt o v F p t w a0 a1 x y nx ny m xs ys fo mw fw W) (hm : MapIs prog 31 (Value.int .u64) U64 V v m' f') (hg : W.grownBy V (some v)) : RF base g bt o v F p t w a0 a1 x y nx ny m xs ys fo m' f' V where
 box := h.box.grown hg fun e => by injection e with e; exact blk_map_ne h.box h.mv e
 pool := h.pool.grown hg fun e => by injection e with e; exact blk_map_ne h.pool h.mv e
 rx := own_block h.rx fun r q => hg.block r (own_ge h.rx r q).2 fun e => by injection e with e; subst e; exact own_map_ne h.rx h.mv q
 ry := own_block h.ry fun r q => hg.block r (own_ge h.ry r q).2 fun e => by injection e with e; subst e; exact own_map_ne h.ry h.mv q
 mo := h.mo.grown hg fun e => by injection e with e; exact h.ov.1 e
 mv := hm
 st := h.st.block_ (hg.block o h.mo.lt fun e => by injection e with e; exact h.ov.1 e)
 chg := h.chg.trans (Chg.of_grown (F := F) hg fun r e => by injection e with e; subst e; exact .inl h.fv) fun b q => .inl q
 ox := h.ox
 oy := h.oy
 fg := h.fg
 fo_ := h.fo_
 fv := h.fv
 bt := h.bt
 old := h.old
 ov := h.ov
theorem RF.mapw {m' : Nat} {f f' : Int → Option Value} (h : RF base g bt o v F p t w a0 a1 x y nx ny m xs ys fo mw fw W) (hm : MapIs prog 31 (Value.int .u64) U64 W v m' f) (hf : ∀ q, f' q = f q) : RF base g bt o v F p t w a0 a1 x y nx ny m xs ys fo m' f' W where
 box := h.box
 pool := h.pool
 rx := h.rx
 ry := h.ry
 mo := h.mo
 mv := hm.congr hf
 st := h.st
 chg := h.chg
 ox := h.ox
 oy := h.oy
 fg := h.fg
 fo_ := h.fo_
 fv := h.fv
 bt := h.bt
 old := h.old
 ov := h.ov
theorem RF.fin {d : Int} (h : RF base g bt o v F p t w x y x y (p.T.length + 1) (p.T.length + 1) (p.T.length + 1) (p.T.flatMap TD.cells ++ t.cells) (p.D.map (Value.int .i64) ++ [.int .i64 d]) (putF (ofF p.T) t (.int .i64 (p.T.length : Nat))) (p.T.length + 1) (wdF (p.T ++ [t])) W)
  (hwf : WfP ⟨p.T ++ [t], p.D ++ [d]⟩) (hr : ∀ u ∈ p.T, u.wf) (ht : t.wf) (hn : atT p.T t = none) (hfb : ∀ b, F b → base ≤ b) (hbase : base ≤ w.heap.size) :
  PoolAt W base (fun b => F b ∨ (w.heap.size ≤ b ∧ b < W.heap.size)) g ⟨p.T ++ [t], p.D ++ [d]⟩ where
 ex := by
  refine ⟨x, y, o, v, h.pool, ?_, ?_, ?_, ?_, h.st, h.ov.1, .inl h.fg, .inl h.fo_, .inl h.fv, fun b q => ?_, fun b q => ?_⟩
  ·simpa using h.rx
  ·simpa using h.ry
  ·have := h.mo.congr (ofF_put hn)
   simpa using this
  ·simpa using h.mv
  ·have := (own_ge h.rx b q).2
   exact (h.ox b q).imp id fun e => ⟨by omega, this⟩
  ·have := (own_ge h.ry b q).2
   exact (h.oy b q).imp id fun e => ⟨by omega, this⟩
 wf := hwf
 rng := fun u hu => by
  rcases List.mem_append.1 hu with q | q
  ·exact hr u q
  ·simp at q; rw [q]; exact ht
 fb := fun b q => by
  rcases q with q | q
  ·have := h.old b q
   have := h.lt
   exact ⟨hfb b q, by omega⟩
  ·exact ⟨by omega, q.2⟩
end
end
section
open Go.RowKit
theorem ret_i {k : IntKind} {a b : Int} (h : a = b) : Ending.returned (.int k a) = .returned (.int k b) := by rw [h]
theorem cut_any (v x : Int) (w : World) : Calls prog 97 #[.int .u64 v, .int .i8 x] w fun e w' => e = .returned (.int .u64 (cutV x v)) ∧ w = w' := by
 cases h8 : (x == 8)
 ·cases h16 : (x == 16)
  ·cases h32 : (x == 32)
   ·have e : cutV x v = v := by simp at h8 h16 h32; unfold cutV; simp [h8, h16, h32]
    rw [e]
    go_enter func97, ntmps97
    go_wp2
    go_ret
    exact ⟨rfl, rfl⟩
   ·obtain rfl : x = 32 := by simpa using h32
    go_enter func97, ntmps97
    go_wp2
    go_ret
    exact ⟨rfl, rfl⟩
  ·obtain rfl : x = 16 := by simpa using h16
   go_enter func97, ntmps97
   go_wp2
   go_ret
   exact ⟨ret_i (by rw [IntKind.wrap_u64, IntKind.wrap_u16]; unfold cutV; simp; omega), rfl⟩
 ·obtain rfl : x = 8 := by simpa using h8
  go_enter func97, ntmps97
  go_wp2
  go_ret
  exact ⟨rfl, rfl⟩
theorem long_any (x : Int) (w : World) : Calls prog 148 #[.int .i8 x] w fun e w' => e = .returned (.bool (longB x)) ∧ w = w' := by
 cases h32 : (x == 32)
 ·go_enter func148, ntmps148
  go_wp2
  go_ret
  exact ⟨by unfold longB; simp [h32], rfl⟩
 ·go_enter func148, ntmps148
  go_wp2
  go_ret
  exact ⟨by unfold longB; simp [h32], rfl⟩
def signU (x v : Int) : Int := if x = 8 then IntKind.u64.wrap (wrap64 (IntKind.i8.wrap v)) else if x = 16 then IntKind.u64.wrap (wrap64 (IntKind.i16.wrap v)) else if x = 32 then IntKind.u64.wrap (wrap64 (wrap32 v)) else v
theorem sign_any (v x : Int) (w : World) : Calls prog 152 #[.int .u64 v, .int .i8 x] w fun e w' => e = .returned (.int .u64 (signU x v)) ∧ w = w' := by
 cases h8 : (x == 8)
 ·cases h16 : (x == 16)
  ·cases h32 : (x == 32)
   ·have e : signU x v = v := by simp at h8 h16 h32; unfold signU; simp [h8, h16, h32]
    rw [e]
    go_enter func152, ntmps152
    go_wp2
    go_ret
    exact ⟨rfl, rfl⟩
   ·obtain rfl : x = 32 := by simpa using h32
    go_enter func152, ntmps152
    go_wp2
    go_ret
    exact ⟨rfl, rfl⟩
  ·obtain rfl : x = 16 := by simpa using h16
   go_enter func152, ntmps152
   go_wp2
   go_ret
   exact ⟨rfl, rfl⟩
 ·obtain rfl : x = 8 := by simpa using h8
  go_enter func152, ntmps152
  go_wp2
  go_ret
  exact ⟨rfl, rfl⟩
theorem do_no {op x : Int} (a b : Int) (w : World) (h : op < 0 ∨ 12 < op ∨ longB x = false) : Calls prog 98 #[.int .i8 op, .int .i8 x, .int .u64 a, .int .u64 b] w fun e w' => e = .returned (.tuple #[.int .u64 0, .int .i64 2]) ∧ w = w' := by
 cases h1 : decide (op < 0)
 ·cases h2 : decide (12 < op)
  ·have HL := Hd (show longB x = false by simp at h1 h2; rcases h with h | h | h <;> first | exact h | omega)
   clear h
   go_enter func98, ntmps98
   go_wp2_with fail
   refine (long_any x _).mono ?_
   rintro e w' ⟨rfl, rfl⟩
   rw [HL.out]
   go_wp2
   go_ret2
   exact ⟨rfl, rfl⟩
  ·clear h
   go_enter func98, ntmps98
   go_wp2
   go_ret2
   exact ⟨rfl, rfl⟩
 ·clear h
  go_enter func98, ntmps98
  go_wp2
  go_ret2
  exact ⟨rfl, rfl⟩
def opsL : List Value := [.func (.func 159) #[] #[], .func (.func 160) #[] #[], .func (.func 161) #[] #[], .func (.func 162) #[] #[], .func (.func 163) #[] #[], .func (.func 164) #[] #[], .func (.func 165) #[] #[], .func (.func 166) #[] #[], .func (.func 167) #[] #[], .func (.func 168) #[] #[], .func (.func 169) #[] #[], .func (.func 170) #[] #[], .func (.func 171) #[] #[]]
theorem ops_any (w : World) : Calls prog 149 #[] w fun e w' => e = .returned (.agg opsL.toArray) ∧ Below w.heap.size w w' := by
 have hb := Blk.new w 197 opsL.toArray
 have hrl := run_loadVar_at (P := prog) _ ⟨w.heap.size, 0, none⟩ 197 opsL _ (blk_list hb) underlying197 rfl (by kernel_rfl)
 unfold opsL at hrl ⊢
 go_enter func149, ntmps149
 go_wp2
 exact bodyPost_ret (by simp [results, results149, Act.put, asAddr, Result.andThen, hrl]) rfl ⟨rfl, (Below.refl _ _).alloc (Nat.le_refl _) _⟩
end
end Go.Proofs.YtepagfkkjlbipaaGreat
