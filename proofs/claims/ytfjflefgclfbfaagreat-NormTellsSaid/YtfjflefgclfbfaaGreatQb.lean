/-
  What stands while the document's pool is written. Conditions: those written in each statement.
  The document's Put. Conditions: those written in each statement.
-/
import Derived.Test.YtfjflefgclfbfaaGreatQa
import Derived.Test.YtfjflefgclfbfaaGreatRf
import Derived.Test.YtfjflefgclfbfaaGreatRh
import Derived.Test.YtfjflefgclfbfaaGreatRi
import Derived.Test.YtfjflefgclfbfaaGreatRj
import Derived.Test.YtfjflefgclfbfaaGreatPu
section
namespace Go.Proofs.YtfjflefgclfbfaaGreat
open Go.RowKit
set_option linter.unusedVariables false
set_option linter.unusedSimpArgs false
set_option maxRecDepth 100000
structure RW (base g bt : Nat) (F : Nat → Prop) (t : TD) (w : World) (a0 a1 x y : Value) (nx ny : Nat) (xs ys : List Value) (W : World) : Prop where
  box : Blk W bt 67 t.cells.toArray
  pool : Blk W g 53 #[a0, a1]
  rx : W.ownsRow base 67 7 x nx xs
  ry : W.ownsRow base 3 1 y ny ys
  chg : Chg F w W
  ox : ∀ b, x.ownBlock = some b → F b ∨ w.heap.size < b
  oy : ∀ b, y.ownBlock = some b → F b ∨ w.heap.size < b
  fg : F g
  bt : bt = w.heap.size
  old : ∀ b, F b → b < w.heap.size
section
variable {base g bt nx ny : Nat} {F : Nat → Prop} {p : PS} {t : TD} {w W V : World} {a0 a1 x y : Value} {xs ys : List Value}
theorem RW.lt (h : RW base g bt F t w a0 a1 x y nx ny xs ys W) : w.heap.size < W.heap.size := by have := h.box.lt; rw [h.bt] at this; exact this
theorem RW.step (h : RW base g bt F t w a0 a1 x y nx ny xs ys W) (hb : Below W.heap.size W V) : RW base g bt F t w a0 a1 x y nx ny xs ys V where
  box := h.box.below hb h.box.lt
  pool := h.pool.below hb h.pool.lt
  rx := own_block h.rx fun r q => hb.block r (own_ge h.rx r q).2
  ry := own_block h.ry fun r q => hb.block r (own_ge h.ry r q).2
  chg := h.chg.trans (Chg.of_below (F := fun _ => False) hb) (fun _ q => q.elim)
  ox := h.ox
  oy := h.oy
  fg := h.fg
  bt := h.bt
  old := h.old
theorem RW.g_bt (h : RW base g bt F t w a0 a1 x y nx ny xs ys W) : g ≠ bt := by have := h.old g h.fg; rw [h.bt]; omega
/-- The row of terms has grown. -/
theorem RW.appx {x' : Value} {n' : Nat} {xs' : List Value} (h : RW base g bt F t w a0 a1 x y nx ny xs ys W) (hx : ∀ b, x.ownBlock = some b → F b) (hr : V.ownsRow base 67 7 x' n' xs') (hg : W.grownBy V x.ownBlock) (hb : x'.ownBlock = x.ownBlock ∨ x'.ownBlock = some W.heap.size) :
    RW base g bt F t w a0 a1 x' y n' ny xs' ys V where
  box := h.box.grown hg fun e => by have := h.old _ (hx _ e.symm); rw [h.bt] at this; omega
  pool := h.pool.grown hg fun e => own_blk_ne h.rx h.pool (by decide) e.symm
  rx := hr
  ry := own_block h.ry fun r q => hg.block r (own_ge h.ry r q).2 fun e => own_own_ne h.rx h.ry (by decide) e.symm q
  chg := h.chg.trans (Chg.of_grown (F := F) hg fun r e => .inl (hx r e)) fun b q => .inl q
  ox := fun b q => by
    rcases hb with e | e
    · rw [e] at q; exact h.ox b q
    · rw [e] at q; injection q with q; have := h.lt; exact .inr (by omega)
  oy := h.oy
  fg := h.fg
  bt := h.bt
  old := h.old
/-- The row of depths has grown. -/
theorem RW.appy {y' : Value} {n' : Nat} {ys' : List Value} (h : RW base g bt F t w a0 a1 x y nx ny xs ys W) (hy : ∀ b, y.ownBlock = some b → F b) (hr : V.ownsRow base 3 1 y' n' ys') (hg : W.grownBy V y.ownBlock) (hb : y'.ownBlock = y.ownBlock ∨ y'.ownBlock = some W.heap.size) :
    RW base g bt F t w a0 a1 x y' nx n' xs ys' V where
  box := h.box.grown hg fun e => by have := h.old _ (hy _ e.symm); rw [h.bt] at this; omega
  pool := h.pool.grown hg fun e => own_blk_ne h.ry h.pool (by decide) e.symm
  rx := own_block h.rx fun r q => hg.block r (own_ge h.rx r q).2 fun e => own_own_ne h.ry h.rx (by decide) e.symm q
  ry := hr
  chg := h.chg.trans (Chg.of_grown (F := F) hg fun r e => .inl (hy r e)) fun b q => .inl q
  ox := h.ox
  oy := fun b q => by
    rcases hb with e | e
    · rw [e] at q; exact h.oy b q
    · rw [e] at q; injection q with q; have := h.lt; exact .inr (by omega)
  fg := h.fg
  bt := h.bt
  old := h.old
theorem RW.appy2 {y' : Value} {n' : Nat} {ys' : List Value} (h : RW base g bt F t w a0 a1 x y nx ny xs ys W) (hy : ∀ b, y.ownBlock = some b → F b) (hr : V.ownsRow base 3 1 y' n' ys') (hg : W.grownBy V y.ownBlock) (hb : ∀ b, y'.ownBlock = some b → y.ownBlock = some b ∨ W.heap.size ≤ b) :
    RW base g bt F t w a0 a1 x y' nx n' xs ys' V where
  box := h.box.grown hg fun e => by have := h.old _ (hy _ e.symm); rw [h.bt] at this; omega
  pool := h.pool.grown hg fun e => own_blk_ne h.ry h.pool (by decide) e.symm
  rx := own_block h.rx fun r q => hg.block r (own_ge h.rx r q).2 fun e => own_own_ne h.ry h.rx (by decide) e.symm q
  ry := hr
  chg := h.chg.trans (Chg.of_grown (F := F) hg fun r e => .inl (hy r e)) fun b q => .inl q
  ox := h.ox
  oy := fun b q => by
    rcases hb b q with e | e
    · exact h.oy b e
    · have := h.lt; exact .inr (by omega)
  fg := h.fg
  bt := h.bt
  old := h.old
/-- The pool's own block has been written. -/
theorem RW.set {b0 b1 : Value} (h : RW base g bt F t w a0 a1 x y nx ny xs ys W) (hB : Blk V g 53 #[b0, b1]) (hg : W.grownBy V (some g)) : RW base g bt F t w b0 b1 x y nx ny xs ys V where
  box := h.box.grown hg fun e => by injection e with e; exact h.g_bt e.symm
  pool := hB
  rx := own_block h.rx fun r q => hg.block r (own_ge h.rx r q).2 fun e => by injection e with e; subst e; exact own_blk_ne h.rx h.pool (by decide) q
  ry := own_block h.ry fun r q => hg.block r (own_ge h.ry r q).2 fun e => by injection e with e; subst e; exact own_blk_ne h.ry h.pool (by decide) q
  chg := h.chg.trans (Chg.of_grown (F := F) hg fun r e => by injection e with e; subst e; exact .inl h.fg) fun b q => .inl q
  ox := h.ox
  oy := h.oy
  fg := h.fg
  bt := h.bt
  old := h.old
end
section
variable {P : Program}
theorem wpList_push3 {ops : Array Oper} {rest : List Oper} {o1 o2 : Oper} {a : Act} {w : World} {Q : Exit → Act → World → Prop} (hg1 : o1.guard = none) (hg2 : o2.guard = none) (t e : TypeId) (x s y : Operand)
    (ho1 : o1.op = .buildSlice t 1 #[(0, x)]) (ho2 : o2.op = .call { callee := .builtin .append, args := #[s, y], argTypes := #[t, t] })
    (base size bytes : Nat) (i0 : TypeInfo) (z v sv : Value) (cs xs : List Value) (n : Nat) (ht : P.underlying t = some (.slice e)) (hi : P.info? e = some i0) (hz : i0.zero = some z) (hs : i0.size = size) (hb : i0.bytes = bytes)
    (hzs : z.cells.size = size) (h0 : 0 < size) (hs0 : size ≤ 1024) (hx : a.eval x = v) (hcs : v.cells = cs.toArray) (hvs : cs.length = size) (h1 : ∀ u ∈ cs, u.oneCell' = true)
    (hown : w.ownsRow base e size sv n xs) (hbase : base ≤ w.heap.size) (h63 : n + 1 ≤ maxLen) (hbytes : (n + 1) * bytes ≤ 140737488355328)
    (hsv : (a.put o1.dst (.slice (some ⟨w.heap.size, 0, none⟩) 1 1)).eval s = sv) (hy : (a.put o1.dst (.slice (some ⟨w.heap.size, 0, none⟩) 1 1)).eval y = .slice (some ⟨w.heap.size, 0, none⟩) 1 1)
    (h : ∀ v' w' g, w.heap.size ≤ g → w'.ownsRow base e size v' (n + 1) (xs ++ cs) → Below base w w' → w.grownBy w' sv.ownBlock → (∀ b, v'.ownBlock = some b → sv.ownBlock = some b ∨ w.heap.size ≤ b) → wpList P ops Q rest ((a.put o1.dst (.slice (some ⟨g, 0, none⟩) 1 1)).put o2.dst v') w') : wpList P ops Q (o1 :: o2 :: rest) a w := by
  subst hs hb
  refine wpList_plain hg1 fun K hK => ?_
  unfold Oper.wp execOp
  have hrun := run_buildSlice_one (P := P) w t e i0 z v ht hi hz hs0 h0 (by rw [hcs]; simpa using hvs)
  simp only [ho1, Sem.run_bind, List.map_toArray, List.map_cons, List.map_nil, hx, hrun, Result.andThen_ok, Sem.run_pure]
  refine hK _ _ ?_
  have hown' := hown.alloc (Obj.cells v.cells e)
  have hnew : Reads (w.alloc (.cells v.cells e)) (w.heap.size + 1) i0.size (some ⟨w.heap.size, 0, none⟩) 1 cs := by
    refine ⟨by omega, fun _ => ⟨_, rfl, Nat.lt_succ_self _, fun j u hu => ?_⟩⟩
    rw [show (⟨w.heap.size, 0, none⟩ : Addr).add j = ⟨w.heap.size, j, none⟩ from by unfold Addr.add; split <;> simp_all]
    rw [(Blk.new w e v.cells).cell j, hcs]
    simpa using hu
  refine wpList_append_any _ hg2 s y t ho2 base e i0 z i0.size i0.bytes ht hi hz rfl rfl hzs h0 sv n xs hsv hown' _ _ 1 1 cs hy hnew h1 h63 hbytes (by simp; omega) fun v' w' q1 q2 q3 => ?_
  have hgr : w.grownBy w' sv.ownBlock := (World.grownBy_alloc w _ sv.ownBlock).trans q2
  exact h v' w' _ (Nat.le_refl _) q1 ((Below.refl _ _).grown hgr hbase (fun g hg => by
    rcases hown.2 with ⟨hsv0, _⟩ | ⟨g', cap, cur, hsv0, hg', _⟩
    · rw [hsv0] at hg; simp [Value.ownBlock] at hg
    · rw [hsv0] at hg; simp [Value.ownBlock] at hg; omega)) hgr fun b hb => by
    rcases q3 with e | e
    · exact .inl (e ▸ hb)
    · rw [e] at hb
      injection hb with hb
      simp at hb
      exact .inr (by omega)
end
/-- All has been written: the document's pool with one term more. -/
theorem RW.fin {base g bt n : Nat} {F : Nat → Prop} {p : PS} {t : TD} {w W : World} {x y : Value} {d : Int} (h : RW base g bt F t w x y x y (n + 1) (n + 1) (p.T.flatMap TD.cells ++ t.cells) (p.D.map (Value.int .i64) ++ [.int .i64 d]) W)
    (h1 : okP p.T t = true) (h2 : atT p.T t = none) (h3 : p.T.length = n) (h4 : d = dmax p.D (prtL t)) (h5 : ¬ 4000 ≤ n ∧ ¬ 256 < d)
    (hwf : WfP p) (hr : ∀ u ∈ p.T, u.wf) (ht : t.wf) (hfb : ∀ b, F b → base ≤ b) (hbase : base ≤ w.heap.size) : RetR base g F w (putR p t) (.returned (.tuple #[.int .i64 (n : Nat), .int .i64 0])) W := by
  subst h3
  have e : putP p t = ⟨p.T ++ [t], p.D ++ [d]⟩ := by
    unfold putP
    rw [if_pos ⟨h1, h2, by omega, by rw [← h4]; omega⟩, ← h4]
  have e2 : putN p t = ((p.T.length : Int), 0) := by
    unfold putN
    rw [h1, h2, ← h4]
    simp
    omega
  have hw := hwf.put t
  rw [e] at hw
  refine ⟨by unfold putR; rw [e2], fun b => F b ∨ (w.heap.size ≤ b ∧ b < W.heap.size), ?_, h.chg, fun b q => Or.imp id And.left q⟩
  show RefAt W base _ g (putP p t)
  rw [e]
  refine ⟨⟨x, y, h.pool, by simpa using h.rx, by simpa using h.ry, .inl h.fg, fun b q => ?_, fun b q => ?_⟩, hw, fun u hu => ?_, fun b q => ?_⟩
  · have := (own_ge h.rx b q).2
    exact (h.ox b q).imp id fun e => ⟨by omega, this⟩
  · have := (own_ge h.ry b q).2
    exact (h.oy b q).imp id fun e => ⟨by omega, this⟩
  · rcases List.mem_append.1 hu with q | q
    · exact hr u q
    · simp at q; rw [q]; exact ht
  · rcases q with q | q
    · have := h.old b q
      have := h.lt
      exact ⟨hfb b q, by omega⟩
    · exact ⟨by omega, q.2⟩
end Go.Proofs.YtfjflefgclfbfaaGreat
end
section
namespace Go.Proofs.YtfjflefgclfbfaaGreat
open Go.RowKit
set_option linter.unusedVariables false
set_option linter.unusedSimpArgs false
set_option maxRecDepth 100000
theorem rfld0 (g : Nat) (w : World) : (Instr.fieldAt 53 (.pointer (some ⟨g, 0, none⟩)) 0).run Tryz.prog w = .ok (.pointer (some ⟨g, 0, none⟩)) w := by go_simp
/-- What stands before the pool is written: the term in a variable. -/
structure RU (base : Nat) (F : Nat → Prop) (g bt : Nat) (p : PS) (t : TD) (w W : World) : Prop where
  pool : RefAt W base F g p
  box : Blk W bt 67 t.cells.toArray
  bt : bt = w.heap.size
  below : Below w.heap.size w W
  old : ∀ b, F b → b < w.heap.size
section
variable {base g bt : Nat} {F : Nat → Prop} {p : PS} {t : TD} {w W V : World}
theorem RU.step (h : RU base F g bt p t w W) (hb : Below W.heap.size W V) : RU base F g bt p t w V :=
  ⟨h.pool.below hb, h.box.below hb h.box.lt, h.bt, h.below.trans (hb.mono h.below.size), h.old⟩
theorem RU.lt (h : RU base F g bt p t w W) : w.heap.size + 1 ≤ W.heap.size := by have := h.box.lt; rw [h.bt] at this; omega
theorem RU.no (h : RU base F g bt p t w W) (e : putP p t = p) {n r : Int} (hn : putN p t = (n, r)) : RetR base g F w (putR p t) (.returned (.tuple #[.int .i64 n, .int .i64 r])) W :=
  ⟨by unfold putR; rw [hn], F, by show RefAt W base F g (putP p t); rw [e]; exact h.pool, ⟨h.below.os, h.below.tape, h.below.output, h.below.size, fun i hi _ => h.below.block i hi⟩, fun b q => .inl q⟩
end
theorem rmay_x (t : TD) (ht : t.wf) (hk : ¬ (t.kind = 0 ∨ t.kind = 1 ∨ t.kind = 2 ∨ t.kind = 3 ∨ t.kind = 4 ∨ t.kind = 5)) (w : World) {base g : Nat} {F : Nat → Prop} {p : PS} (h : RefAt w base F g p) : Calls Tryz.prog 100 #[.pointer (some ⟨g, 0, none⟩), termV t] w fun e w' => e = .returned (.bool (okP p.T t)) ∧ Below w.heap.size w w' := by
  have hno : okP p.T t = false := by
    unfold okP okF askT
    rw [if_neg (by omega), if_neg (by omega), if_neg (by omega), if_neg (by omega), if_neg (by omega)]
    simp; omega
  rw [hno]
  have HB0 := hide (bl_alloc' w (.cells t.cells.toArray 67))
  have HX0 := hide (Blk.new w 67 t.cells.toArray)
  have k0 : (t.kind == 0) = false := by simp; omega
  have k1 : (t.kind == 1) = false := by simp; omega
  have k2 : (t.kind == 2) = false := by simp; omega
  have k3 : (t.kind == 3) = false := by simp; omega
  have k4 : (t.kind == 4) = false := by simp; omega
  have k5 : (t.kind == 5) = false := by simp; omega
  have qb := fun w => rbuild_kind t.kind w
  clear h ht hno hk
  unfold termV
  go_enter Tryz.func100, Tryz.ntmps100
  go_upto_region 1 with fail
  generalize w.alloc (.cells t.cells.toArray 67) = w1 at HB0 HX0 ⊢
  obtain ⟨bx, hbx⟩ : ∃ b, w.heap.size = b := ⟨_, rfl⟩
  rw [hbx] at HX0 ⊢
  clear hbx
  have q0 := HX0.out.cell 0
  simp [TD.cells] at q0
  go_upto_region 2 with fail
  have HL := hide (bl_alloc' w1 (.cells #[.int .i8 t.kind, .int .i8 0, .int .i8 0, .int .u64 0, .int .i64 0, .int .i64 0, .int .i64 0] 67))
  generalize w1.alloc (.cells #[.int .i8 t.kind, .int .i8 0, .int .i8 0, .int .u64 0, .int .i64 0, .int .i64 0, .int .i64 0] 67) = w2 at HL ⊢
  have HX1 := hide (HX0.out.below HL.out HX0.out.lt)
  have HB := hide (HB0.out.trans (HL.out.mono HB0.out.size))
  clear q0 HX0 HB0 HL
  have q0 := HX1.out.cell 0
  simp [TD.cells] at q0
  go_wp2
  go_ret
  exact ⟨rfl, HB.out⟩
theorem rmay_any (t : TD) (ht : t.wf) (w : World) {base g : Nat} {F : Nat → Prop} {p : PS} (h : RefAt w base F g p) : Calls Tryz.prog 100 #[.pointer (some ⟨g, 0, none⟩), termV t] w fun e w' => e = .returned (.bool (okP p.T t)) ∧ Below w.heap.size w w' := by
  by_cases k0 : t.kind = 0
  · exact rmay_0 t ht k0 w h
  by_cases k1 : t.kind = 1
  · exact rmay_1 t ht k1 w h
  by_cases k2 : t.kind = 2
  · exact rmay_2 t ht k2 w h
  by_cases k3 : t.kind = 3
  · exact rmay_3 t ht k3 w h
  by_cases k4 : t.kind = 4
  · exact rmay_4 t ht k4 w h
  by_cases k5 : t.kind = 5
  · exact rmay_5 t ht k5 w h
  · exact rmay_x t ht (by omega) w h
theorem dmax_take {D : List Int} {l : List Int} {k : Nat} {x y : Int} (hx : l[k]? = some x) (hy : D[x.toNat]? = some y) : dmax D (l.take (k + 1)) = max (dmax D (l.take k)) (y + 1) := by
  rw [take_snoc_ hx]
  unfold dmax
  rw [List.foldl_append, List.foldl_cons, List.foldl_nil, List.getD_eq_getElem?_getD, hy]
  rfl
theorem reads_mono_ {w : World} {B C size n : Nat} {A : Option Addr} {xs : List Value} (h : Reads w B size A n xs) (hb : B ≤ C) : Reads w C size A n xs := ⟨h.1, fun hn => by obtain ⟨ad, e, hl, hc⟩ := h.2 hn; exact ⟨ad, e, by omega, hc⟩⟩
theorem RowAt.below {w w' : World} {v : Value} {xs : List Int} (h : RowAt w v xs) (hb : Below w.heap.size w w') : RowAt w' v xs := by
  obtain ⟨A, c, h1, h2, h3⟩ := h
  exact ⟨A, c, h1, h2, reads_mono_ (h3.below hb) hb.size⟩
set_option maxHeartbeats 8000000 in
theorem rput_any {base g : Nat} {F : Nat → Prop} {p : PS} (t : TD) (ht : t.wf) (w : World) (h : RefAt w base F g p) (hbase : base ≤ w.heap.size) :
    Calls Tryz.prog 73 #[.pointer (some ⟨g, 0, none⟩), termV t] w (RetR base g F w (putR p t)) := by
  have HT := hide ht
  have HU : Hid (RU base F g w.heap.size p t w (w.alloc (.cells t.cells.toArray 67))) :=
    ⟨h.below ((Below.refl _ _).alloc (Nat.le_refl _) _), Blk.new w _ _, rfl, (Below.refl _ _).alloc (Nat.le_refl _) _, fun b q => (h.fb b q).2⟩
  clear ht h
  unfold termV
  go_enter Tryz.func73, Tryz.ntmps73
  go_upto_region 3 with fail
  obtain ⟨w1, hw1⟩ : ∃ w1, w.alloc (.cells t.cells.toArray 67) = w1 := ⟨_, rfl⟩
  obtain ⟨bt, hbt⟩ : ∃ b, w.heap.size = b := ⟨_, rfl⟩
  rw [hw1] at HU ⊢
  rw [hbt] at HU ⊢
  clear hw1 hbt
  go_wp2_with (first
    | (refine wpList_load_at rfl 67 (.tmp 3) rfl ⟨bt, 0, none⟩ (by rfl) t.cells _ (blk_list HU.out.box) Tryz.underlying67 rfl sizT ?_)
    | fail)
  refine (rmay_any t HT.out _ HU.out.pool).mono ?_
  rintro e w2 ⟨rfl, hb⟩
  replace HU := hide (HU.out.step hb)
  clear hb
  cases hok : okP p.T t
  · have HOK := hide hok
    clear hok
    go_wp2
    go_ret2
    exact HU.out.no (by unfold putP; rw [HOK.out]; simp) (by unfold putN; rw [HOK.out]; rfl)
  have HOK := hide hok
  clear hok
  obtain ⟨n, hn⟩ : ∃ n, p.T.length = n := ⟨_, rfl⟩
  have hfew := HU.out.pool.few
  rw [hn] at hfew
  have HN := hide hn
  clear hn
  go_upto_region 6 with fail
  go_loopw [6] (fun iv wr => ∃ k : Nat, k ≤ n ∧ iv = .int .i64 (k : Int) ∧ RU base F g bt p t w wr ∧ ∀ (j : Nat), j < k → p.T[j]? ≠ some t) (fun iv _ => n - (intOf iv).toNat)
  case atStart => exact ⟨0, by omega, rfl, HU.out, fun j h => by omega⟩
  case round =>
    obtain ⟨k, hk, rfl, hm, hall⟩ := hrel
    have HV := hide hm
    have HALL := hide hall
    clear hm hall HU
    obtain ⟨A, c, D, d, h1, h2, _, _, _, _⟩ := HV.out.pool.view
    rw [HN.out] at h1 h2
    by_cases hlt : k < n
    · obtain ⟨ad, c', u, h1', h2', hu, huw, hc⟩ := HV.out.pool.at_ (k := k) (by rw [HN.out]; exact hlt)
      rw [HN.out] at h1' h2'
      have HC := hide hc
      have HU2 := hide hu
      have heq := fun w => eql_tm huw HT.out w
      obtain ⟨du, hdu⟩ : ∃ d, decide (u = t) = d := ⟨_, rfl⟩
      have HDU := hide hdu
      rw [hdu] at heq
      clear h1 h2 hc hu huw hdu
      have hkc : k < c' := by omega
      go_wp2
      refine wp_region_quiet_lit (by kernel_rfl) (by kernel_rfl) ?_
      repeat (first
        | (refine wpQuiet_load rfl 67 (.tmp 30) rfl (ad.add (k * 7)) (by rfl) u.cells _ HC.out Tryz.underlying67 rfl sizT ?_; go_simp)
        | (refine wpQuiet_load rfl 67 (.tmp 3) rfl ⟨bt, 0, none⟩ (by rfl) t.cells _ (blk_list HV.out.box) Tryz.underlying67 rfl sizT ?_; go_simp)
        | go_big_quiet_step (fail))
      refine wpQuiet_nil ?_
      first
        | (intro wq hwq; obtain ⟨nq, rfl⟩ := hwq)
        | intro nq
      replace HV := hide (HV.out.step (below_drewN (Below.refl _ _) nq))
      generalize wr.drewN nq = w5 at HV ⊢
      clear heq h1'
      cases du
      · go_wp2
        go_roundw
        case measure => simp [intOf]; omega
        case rel =>
          refine ⟨k + 1, by omega, by go_num, HV.out, fun j hj => ?_⟩
          rcases Nat.lt_or_ge j k with q | q
          · exact HALL.out j q
          · obtain rfl : j = k := by omega
            rw [HU2.out]
            intro e
            injection e with e
            have := HDU.out
            simp [e] at this
      · go_wp2
        go_ret2
        have e : u = t := by simpa using HDU.out
        have hp := put_there HV.out.pool.wf (show p.T[k]? = some t by rw [HU2.out, e])
        exact HV.out.no hp.1 hp.2
    · obtain rfl : n = k := by omega
      have hno : atT p.T t = none := by
        cases e : atT p.T t with
        | none => rfl
        | some i =>
          have := atT_some e
          exact absurd this (HALL.out i (by have := (List.getElem?_eq_some_iff.1 this).1; rw [HN.out] at this; exact this))
      have HNO := hide hno
      clear hno HALL hk hlt
      go_upto_region 11 with fail
      clear h1 h2
      go_wp2_with (first
        | (refine wpList_load_at rfl 67 (.tmp 3) rfl ⟨bt, 0, none⟩ (by rfl) t.cells _ (blk_list HV.out.box) Tryz.underlying67 rfl sizT ?_)
        | fail)
      refine (rparts_any t _).mono ?_
      rintro e w3 ⟨pv, rfl, hrow, hb⟩
      replace HV := hide (HV.out.step hb)
      clear hb
      obtain ⟨m, hm⟩ : ∃ m, (prtL t).length = m := ⟨_, rfl⟩
      have HM := hide hm
      have hl3 := prtL_len t
      rw [hm] at hl3
      have HRW := hide hrow
      obtain ⟨A2, c2, rfl, hc2, _⟩ := hrow
      rw [hm] at hc2 HRW ⊢
      clear hm
      go_upto_region 13 with fail
      go_loopw [7, 9] (fun dv iv wr => ∃ (k : Nat) (d : Int), k ≤ m ∧ dv = .int .i64 d ∧ iv = .int .i64 (k : Int) ∧ 1 ≤ d ∧ d ≤ 300 ∧ d = dmax p.D ((prtL t).take k) ∧ RU base F g bt p t w wr ∧ RowAt wr (.slice A2 m c2) (prtL t)) (fun _ iv _ => m - (intOf iv).toNat)
      case atStart => exact ⟨0, 1, by omega, rfl, rfl, by omega, by omega, rfl, HV.out, HRW.out⟩
      case round =>
        obtain ⟨j, d, hj, rfl, rfl, hd1, hd2, hd, hm, hrow⟩ := hrel
        have HDJ := hide hd
        have HVJ := hide hm
        have HRJ := hide hrow
        clear hd hm hrow HV HRW
        by_cases hjm : j < m
        · obtain ⟨A3, c3, e3, _, hrd⟩ := HRJ.out
          injection e3 with ea el ec
          subst ea ec
          obtain ⟨ad3, x, rfl, _, hx, hcx⟩ := hrd.at_ (k := j) (by omega)
          rw [List.getElem?_map, List.getElem?_eq_getElem (by rw [HM.out]; exact hjm)] at hx
          injection hx with hx
          subst hx
          have HX := hide (List.getElem?_eq_getElem (l := prtL t) (i := j) (by rw [HM.out]; exact hjm))
          generalize (prtL t)[j]'(by rw [HM.out]; exact hjm) = x at HX hcx
          have hin := (okP_parts HOK.out).2.1 x (List.mem_of_getElem? HX.out)
          obtain ⟨i, rfl⟩ : ∃ i : Nat, x = i := ⟨x.toNat, by omega⟩
          have hi : i < p.T.length := by omega
          obtain ⟨A4, c4, D4, d4, _, _, _, g4, g5, g6⟩ := HVJ.out.pool.view
          obtain ⟨ad4, y, rfl, _, hy, hcy⟩ := g6.at_ hi
          have hyl : i < p.D.length := by rw [HVJ.out.pool.wf.len]; exact hi
          rw [List.getElem?_map, List.getElem?_eq_getElem hyl] at hy
          injection hy with hy
          subst hy
          have HY := hide (List.getElem?_eq_getElem hyl)
          generalize p.D[i]'hyl = y at HY hcy
          have hylo := HVJ.out.pool.wf.low _ (List.mem_of_getElem? HY.out)
          rw [HN.out] at g4 g5 hi
          clear hrd g6 hin
          have hid : i < d4 := by omega
          have hjc : j < c2 := by omega
          go_upto_region 15 with fail
          go_region
          all_goals
            go_wp2
            go_roundw
            case measure => simp [intOf]; omega
            case rel => exact ⟨j + 1, max d (y + 1), by omega, by first | rfl | (congr 1; omega), by go_num, by omega, by omega, by rw [dmax_take HX.out HY.out, HDJ.out], HVJ.out.step ((Below.refl _ _).drew), HRJ.out.below ((Below.refl _ _).drew)⟩
        · obtain rfl : j = m := by omega
          have hdm : d = dmax p.D (prtL t) := by rw [HDJ.out, ← HM.out, List.take_length]
          have HD := hide hdm
          clear HDJ hdm HRJ hj hjm hl3 HM
          obtain ⟨A4, c4, D4, d4, g1, g2, _, _, _, _⟩ := HVJ.out.pool.view
          rw [HN.out] at g1 g2
          by_cases hlim : 4000 ≤ n
          · as_aux_lemma =>
              go_wp2
              go_ret2
              exact HVJ.out.no (by unfold putP; rw [if_neg]; rintro ⟨_, _, h, _⟩; rw [HN.out] at h; omega) (by unfold putN; rw [HOK.out, HNO.out, HN.out]; simp [hlim])
          by_cases hdl : 256 < d
          · as_aux_lemma =>
              go_wp2
              go_ret2
              exact HVJ.out.no (by unfold putP; rw [if_neg]; rintro ⟨_, _, _, h⟩; rw [← HD.out] at h; omega) (by unfold putN; rw [HOK.out, HNO.out, ← HD.out]; simp [hdl])
          go_wp2
          have HLIM := hide (And.intro hlim hdl)
          obtain ⟨ls, ds, hG, hL, hD, f1, f4, f5⟩ := HVJ.out.pool.ex
          rw [HN.out] at hL hD
          have HR0 := RW.mk HVJ.out.box hG hL hD ⟨HVJ.out.below.os, HVJ.out.below.tape, HVJ.out.below.output, HVJ.out.below.size, fun i hi _ => HVJ.out.below.block i hi⟩ (fun b q => .inl (f4 b q)) (fun b q => .inl (f5 b q)) f1 HVJ.out.bt HVJ.out.old
          have HR := hide (HR0.step ((Below.refl _ _).drew))
          have HFX := hide f4
          have HFY := hide f5
          have HRNG := hide HVJ.out.pool.rng
          have HWF := hide HVJ.out.pool.wf
          have HFB := hide (fun b q => (HVJ.out.pool.fb b q).1 : ∀ b, F b → base ≤ b)
          clear hG hL hD f1 f4 f5 HR0 HVJ g1 g2
          obtain ⟨iM, hiM, hzM, hsM, hbM⟩ := info_parts infTm
          have IM := hide (And.intro hiM (And.intro hzM (And.intro hsM hbM)))
          clear hiM hzM hsM hbM
          obtain ⟨iN, hiN, hzN, hsN, hbN⟩ := info_parts infIn
          have IN := hide (And.intro hiN (And.intro hzN (And.intro hsN hbN)))
          clear hiN hzN hsN hbN
          refine wp_region_E (fun w' => Blk w' bt 67 t.cells.toArray) (fun w' => Blk w' g 53 #[ls, ds]) [10] (by kernel_rfl) ?_
          generalize wr.drew = w6 at HR ⊢
          refine E_move 0 (some 66) (.tmp 0) (.pointer (some ⟨g, 0, none⟩)) rfl (by kernel_rfl) (by rfl) (fun _ _ _ h => h) (by rfl) (.both HR.out.box HR.out.pool) ?_
          simp only [Act.put, List.setIfInBounds_toArray, List.set_cons_zero, List.set_cons_succ]
          refine E_move 1 (some 67) (.tmp 0) (.pointer (some ⟨g, 0, none⟩)) rfl (by kernel_rfl) (by rfl) (fun _ _ _ h => h) (by rfl) (.both HR.out.box HR.out.pool) ?_
          simp only [Act.put, List.setIfInBounds_toArray, List.set_cons_zero, List.set_cons_succ]
          refine E_nil 2 (some 68) (.tmp 67) ⟨g, 0, none⟩ rfl (by kernel_rfl) (by rfl) (fun _ _ _ h => h) (by rfl) (.both HR.out.box HR.out.pool) ?_
          simp only [Act.put, List.setIfInBounds_toArray, List.set_cons_zero, List.set_cons_succ]
          refine E_field 3 (some 69) 53 (.tmp 68) 0 ⟨g, 0, none⟩ ⟨g, 0, none⟩ rfl (by kernel_rfl) (by rfl) (fun _ _ _ h => h) (by rfl) (rfld0 g) (.both HR.out.box HR.out.pool) ?_
          simp only [Act.put, List.setIfInBounds_toArray, List.set_cons_zero, List.set_cons_succ]
          refine E_load1 true 4 (some 70) 49 (.tmp 69) ⟨g, 0, none⟩ (ls) rfl (by kernel_rfl) (by rfl) (fun _ _ _ h => h) (by rfl) (fun w hS => run_loadVar_one _ _ _ _ Tryz.underlying49 rfl ((hS.2 rfl).cell 0)) (.both HR.out.box HR.out.pool) ?_
          simp only [Act.put, List.setIfInBounds_toArray, List.set_cons_zero, List.set_cons_succ]
          refine E_load false 5 (some 71) 67 (.tmp 3) ⟨bt, 0, none⟩ t.cells _ rfl (by kernel_rfl) (by rfl) (fun _ _ _ h => h) (by rfl) (fun w hS => blk_list hS.1) Tryz.underlying67 rfl sizT (.both HR.out.box HR.out.pool) ?_
          simp only [Act.put, List.setIfInBounds_toArray, List.set_cons_zero, List.set_cons_succ]
          refine E_one 6 (by kernel_rfl) (StepE.slice_one 6 (some 72) 49 67 (.tmp 71) iM _ (termV t) rfl (by rfl) Tryz.underlying49 IM.out.1 IM.out.2.1 (by rw [IM.out.2.2.1]; decide) (by rw [IM.out.2.2.1]; decide) (by rfl) (by rw [IM.out.2.2.1]; rfl) ?_)
          intro wa ga hga Ba La
          have HBA := hide Ba
          replace HR := hide (HR.out.step La)
          clear Ba La hga
          refine ⟨.both HR.out.box HR.out.pool, ?_⟩
          simp only [Act.put, List.setIfInBounds_toArray, List.set_cons_zero, List.set_cons_succ]
          refine E_one 7 (by kernel_rfl) (StepE.append 7 (some 73) 49 67 (.tmp 70) (.tmp 72) base iM _ 7 40 rfl (by rfl) Tryz.underlying49 IM.out.1 IM.out.2.1 IM.out.2.2.1 IM.out.2.2.2 rfl (by omega) ls n (p.T.flatMap TD.cells) (by rfl) HR.out.rx _ (some ⟨ga, 0, none⟩) 1 1 t.cells (by rfl) (reads_blk (xs := t.cells) HBA.out 1 7 rfl) (TD.one t) (by unfold maxLen; omega) (by omega) (by have := HR.out.chg.size; omega) ?_)
          intro ls2 wb R2 G2 O2
          obtain ⟨gx, cx, hx, _⟩ := (RowL.of_own R2).form (by omega)
          subst hx
          replace HR := hide (HR.out.appx HFX.out R2 G2 O2)
          clear R2 G2 O2 HBA
          refine ⟨.both HR.out.box HR.out.pool, ?_⟩
          simp only [Act.put, List.setIfInBounds_toArray, List.set_cons_zero, List.set_cons_succ]
          refine E_one 8 (by kernel_rfl) (StepE.nil 8 (some 74) (.tmp 66) ⟨g, 0, none⟩ rfl (by rfl) (by rfl) (.both HR.out.box HR.out.pool) ?_)
          simp only [Act.put, List.setIfInBounds_toArray, List.set_cons_zero, List.set_cons_succ]
          refine E_one 9 (by kernel_rfl) (StepE.field 9 (some 75) 53 (.tmp 74) 0 ⟨g, 0, none⟩ ⟨g, 0, none⟩ rfl (by rfl) (by rfl) (rfld0 g) (.both HR.out.box HR.out.pool) ?_)
          simp only [Act.put, List.setIfInBounds_toArray, List.set_cons_zero, List.set_cons_succ]
          refine E_one 10 (by kernel_rfl) (StepE.store_cell 10 49 53 (.tmp 75) (.tmp 73) g 0 _ (.slice (some ⟨gx, 0, none⟩) (n + 1) cx) rfl (by rfl) HR.out.pool (by rfl) (by rfl) (run_storeVar_one 49 g 0 53 _ _ HR.out.pool (by simp) szST rfl rfl) ?_)
          intro w7 B7 G7
          replace HR := hide (HR.out.set (b0 := .slice (some ⟨gx, 0, none⟩) (n + 1) cx) (b1 := ds) B7 G7)
          clear B7 G7
          refine ⟨.after HR.out.box (by kernel_rfl), ?_⟩
          simp only [Act.put, List.setIfInBounds_toArray, List.set_cons_zero, List.set_cons_succ]
          refine wpAnyE_done (by kernel_rfl) ?_ _
          have c1 := HR.out.pool.cell 1
          simp at c1
          have tok1 := True.intro
          have tok2 := True.intro
          go_upto_region 20 with (first
            | (clear tok1
               refine wpList_push3 rfl rfl 30 3 (.tmp 81) (.tmp 80) (.tmp 82) rfl rfl base 1 8 iN _ (.int .i64 d) ds [.int .i64 d] (p.D.map (Value.int .i64)) n Tryz.underlying30 IN.out.1 IN.out.2.1 IN.out.2.2.1 IN.out.2.2.2 rfl (by omega) (by omega) (by rfl) (by rfl) rfl one_int HR.out.ry (by have := HR.out.chg.size; omega) (by unfold maxLen; omega) (by omega) (by rfl) (by rfl) ?_
               intro ds2 wd2 gd hgd R2 L2 G2 O2
               obtain ⟨gy, cy, hy, _⟩ := (RowL.of_own R2).form (by omega)
               subst hy
               have HR2 := hide (HR.out.appy2 HFY.out R2 G2 O2)
               clear R2 G2 O2 L2 c1)
            | (clear tok2
               refine wpList_store_at rfl 30 (.tmp 85) (.tmp 83) rfl g 1 53 [.slice (some ⟨gx, 0, none⟩) (n + 1) cx, ds] [.slice (some ⟨gy, 0, none⟩) (n + 1) cy] _ HR2.out.pool (by rfl) (by rfl) rfl szSI (by simp) (by simp [Value.oneCell']) ?_
               intro w8 B8 G8 Z8
               have HR3 := hide (HR2.out.set (b0 := .slice (some ⟨gx, 0, none⟩) (n + 1) cx) (b1 := .slice (some ⟨gy, 0, none⟩) (n + 1) cy) B8 G8)
               clear B8 G8 Z8)
            | fail)
          clear HR HR2
          have HR := HR3
          clear HR3
          have c0 := HR.out.pool.cell 0
          simp at c0
          go_wp2
          go_ret2
          exact HR.out.fin HOK.out HNO.out HN.out HD.out ⟨HLIM.out.1, by have := HLIM.out.2; omega⟩ HWF.out HRNG.out HT.out HFB.out hbase
end Go.Proofs.YtfjflefgclfbfaaGreat
end
