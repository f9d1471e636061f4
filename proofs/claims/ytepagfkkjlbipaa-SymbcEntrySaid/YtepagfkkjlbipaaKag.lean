/-
  What stands while a pool is written: its parts one by one. Conditions: those written in each statement.
  A map's read inside a region that only reads. Conditions: those written in each statement.
  More laws on aggregates stored: a variable just made. Conditions: those written in each statement.
  A load of an aggregate, guarded and wanted, inside a region that only reads. Conditions: those written in each statement.
-/
import Derived.Test.YtepagfkkjlbipaaKad
import Derived.Test.YtepagfkkjlbipaaKab
import Derived.Test.YtepagfkkjlbipaaKac
section
namespace Go.Proofs.Ytepagfkkjlbipaa
open Go.RowKit
set_option linter.unusedVariables false
set_option linter.unusedSimpArgs false
section
variable {W : World} {b1 b2 s1 s2 n1 n2 m : Nat} {e1 e2 : TypeId} {v1 v2 : Value} {xs ys : List Value}
theorem own_own_ne (h : W.ownsRow b1 e1 s1 v1 n1 xs) (h2 : W.ownsRow b2 e2 s2 v2 n2 ys) (hne : e1 ≠ e2) {r : Nat} (h3 : v1.ownBlock = some r) : v2.ownBlock ≠ some r := by
  intro h4
  rcases h.2 with ⟨q, _⟩ | ⟨g, cap, cur, q1, _, q3, _⟩
  · rw [q] at h3; simp [Value.ownBlock] at h3
  · rcases h2.2 with ⟨q, _⟩ | ⟨g', cap', cur', r1, _, r3, _⟩
    · rw [q] at h4; simp [Value.ownBlock] at h4
    · rw [q1] at h3
      rw [r1] at h4
      simp [Value.ownBlock] at h3 h4
      rw [h3] at q3
      rw [h4, q3] at r3
      injection r3 with r3
      injection r3 with _ r3
      exact hne r3
theorem own_map_ne {κ : Type} {P : Program} {k : TypeId} {enc : κ → Value} {V : κ → Prop} {f : κ → Option Value} (h : W.ownsRow b1 e1 s1 v1 n1 xs) (h2 : MapIs P k enc V W b2 m f) : v1.ownBlock ≠ some b2 := by
  intro h3
  obtain ⟨es, c, h4, _⟩ := h2
  rcases h.2 with ⟨q, _⟩ | ⟨g, cap, cur, q1, _, q3, _⟩
  · rw [q] at h3; simp [Value.ownBlock] at h3
  · rw [q1] at h3
    simp [Value.ownBlock] at h3
    rw [h3, h4] at q3
    injection q3 with q3
    cases q3
theorem blk_map_ne {κ : Type} {P : Program} {k : TypeId} {enc : κ → Value} {V : κ → Prop} {f : κ → Option Value} {g : Nat} {t : TypeId} {cs : Array Value} (h : Blk W g t cs) (h2 : MapIs P k enc V W b2 m f) : g ≠ b2 := by
  rintro rfl
  obtain ⟨es, c, h4, _⟩ := h2
  unfold Blk at h
  rw [h] at h4
  injection h4 with h4
  cases h4
end
theorem reads_blk {W : World} {g : Nat} {e : TypeId} {xs : List Value} (h : Blk W g e xs.toArray) (n size : Nat) (hn : xs.length = n * size) : Reads W W.heap.size size (some ⟨g, 0, none⟩) n xs :=
  ⟨hn, fun _ => ⟨_, rfl, h.lt, blk_list h⟩⟩
/-- A pool's parts: its row's block g with x's and y's old headers a0, a1; the row x of terms, the row y of depths; the maps o (what it holds: fo), v. -/
structure RF (base g bt o v : Nat) (F : Nat → Prop) (p : PS) (t : TD) (w : World) (a0 a1 x y : Value) (nx ny m : Nat) (xs ys : List Value) (fo : TD → Option Value) (mw : Nat) (fw : Int → Option Value) (W : World) : Prop where
  box : Blk W bt 87 t.cells.toArray
  pool : Blk W g 62 #[a0, a1, .map (some o), .map (some v)]
  rx : W.ownsRow base 87 7 x nx xs
  ry : W.ownsRow base 3 1 y ny ys
  mo : MapIs Try.prog 87 termV TD.wf W o m fo
  mv : MapIs Try.prog 46 (Value.int .u64) U64 W v mw fw
  st : Stamped W o
  chg : Chg F w W
  ox : ∀ b, x.ownBlock = some b → F b ∨ w.heap.size < b
  oy : ∀ b, y.ownBlock = some b → F b ∨ w.heap.size < b
  fg : F g
  fo_ : F o
  fv : F v
  bt : bt = w.heap.size
  old : ∀ b, F b → b < w.heap.size
  ov : o ≠ v ∧ w.cell? ⟨g, 2, none⟩ = some (.map (some o)) ∧ w.cell? ⟨g, 3, none⟩ = some (.map (some v))
section
variable {base g bt o v nx ny m : Nat} {F : Nat → Prop} {p : PS} {t : TD} {w W V : World} {a0 a1 x y : Value} {xs ys : List Value} {fo : TD → Option Value} {mw : Nat} {fw : Int → Option Value}
theorem RF.lt (h : RF base g bt o v F p t w a0 a1 x y nx ny m xs ys fo mw fw W) : w.heap.size < W.heap.size := by have := h.box.lt; rw [h.bt] at this; exact this
theorem RF.step (h : RF base g bt o v F p t w a0 a1 x y nx ny m xs ys fo mw fw W) (hb : Below W.heap.size W V) : RF base g bt o v F p t w a0 a1 x y nx ny m xs ys fo mw fw V where
  box := h.box.below hb h.box.lt
  pool := h.pool.below hb h.pool.lt
  rx := own_block h.rx fun r q => hb.block r (own_ge h.rx r q).2
  ry := own_block h.ry fun r q => hb.block r (own_ge h.ry r q).2
  mo := h.mo.below hb h.mo.lt
  mv := h.mv.below hb h.mv.lt
  st := h.st.block_ (hb.block o h.mo.lt)
  chg := h.chg.trans (Chg.of_below (F := fun _ => False) hb) (fun _ q => q.elim)
  ox := h.ox
  oy := h.oy
  fg := h.fg
  fo_ := h.fo_
  fv := h.fv
  bt := h.bt
  old := h.old
  ov := h.ov
theorem RF.g_bt (h : RF base g bt o v F p t w a0 a1 x y nx ny m xs ys fo mw fw W) : g ≠ bt := by have := h.old g h.fg; rw [h.bt]; omega
/-- The row of terms has grown. -/
theorem RF.appx {x' : Value} {n' : Nat} {xs' : List Value} (h : RF base g bt o v F p t w a0 a1 x y nx ny m xs ys fo mw fw W) (hx : ∀ b, x.ownBlock = some b → F b) (hr : V.ownsRow base 87 7 x' n' xs') (hg : W.grownBy V x.ownBlock) (hb : x'.ownBlock = x.ownBlock ∨ x'.ownBlock = some W.heap.size) :
    RF base g bt o v F p t w a0 a1 x' y n' ny m xs' ys fo mw fw V where
  box := h.box.grown hg fun e => by have := h.old _ (hx _ e.symm); rw [h.bt] at this; omega
  pool := h.pool.grown hg fun e => own_blk_ne h.rx h.pool (by decide) e.symm
  rx := hr
  ry := own_block h.ry fun r q => hg.block r (own_ge h.ry r q).2 fun e => own_own_ne h.rx h.ry (by decide) e.symm q
  mo := h.mo.grown hg fun e => own_map_ne h.rx h.mo e.symm
  mv := h.mv.grown hg fun e => own_map_ne h.rx h.mv e.symm
  st := h.st.block_ (hg.block o h.mo.lt fun e => own_map_ne h.rx h.mo e.symm)
  chg := h.chg.trans (Chg.of_grown (F := F) hg fun r e => .inl (hx r e)) fun b q => .inl q
  ox := fun b q => by
    rcases hb with e | e
    · rw [e] at q; exact h.ox b q
    · rw [e] at q; injection q with q; have := h.lt; exact .inr (by omega)
  oy := h.oy
  fg := h.fg
  fo_ := h.fo_
  fv := h.fv
  bt := h.bt
  old := h.old
  ov := h.ov
/-- The row of depths has grown. -/
theorem RF.appy {y' : Value} {n' : Nat} {ys' : List Value} (h : RF base g bt o v F p t w a0 a1 x y nx ny m xs ys fo mw fw W) (hy : ∀ b, y.ownBlock = some b → F b) (hr : V.ownsRow base 3 1 y' n' ys') (hg : W.grownBy V y.ownBlock) (hb : y'.ownBlock = y.ownBlock ∨ y'.ownBlock = some W.heap.size) :
    RF base g bt o v F p t w a0 a1 x y' nx n' m xs ys' fo mw fw V where
  box := h.box.grown hg fun e => by have := h.old _ (hy _ e.symm); rw [h.bt] at this; omega
  pool := h.pool.grown hg fun e => own_blk_ne h.ry h.pool (by decide) e.symm
  rx := own_block h.rx fun r q => hg.block r (own_ge h.rx r q).2 fun e => own_own_ne h.ry h.rx (by decide) e.symm q
  ry := hr
  mo := h.mo.grown hg fun e => own_map_ne h.ry h.mo e.symm
  mv := h.mv.grown hg fun e => own_map_ne h.ry h.mv e.symm
  st := h.st.block_ (hg.block o h.mo.lt fun e => own_map_ne h.ry h.mo e.symm)
  chg := h.chg.trans (Chg.of_grown (F := F) hg fun r e => .inl (hy r e)) fun b q => .inl q
  ox := h.ox
  oy := fun b q => by
    rcases hb with e | e
    · rw [e] at q; exact h.oy b q
    · rw [e] at q; injection q with q; have := h.lt; exact .inr (by omega)
  fg := h.fg
  fo_ := h.fo_
  fv := h.fv
  bt := h.bt
  old := h.old
  ov := h.ov
/-- The pool's own block has been written. -/
theorem RF.set {b0 b1 : Value} (h : RF base g bt o v F p t w a0 a1 x y nx ny m xs ys fo mw fw W) (hB : Blk V g 62 #[b0, b1, .map (some o), .map (some v)]) (hg : W.grownBy V (some g)) : RF base g bt o v F p t w b0 b1 x y nx ny m xs ys fo mw fw V where
  box := h.box.grown hg fun e => by injection e with e; exact h.g_bt e.symm
  pool := hB
  rx := own_block h.rx fun r q => hg.block r (own_ge h.rx r q).2 fun e => by injection e with e; subst e; exact own_blk_ne h.rx h.pool (by decide) q
  ry := own_block h.ry fun r q => hg.block r (own_ge h.ry r q).2 fun e => by injection e with e; subst e; exact own_blk_ne h.ry h.pool (by decide) q
  mo := h.mo.grown hg fun e => by injection e with e; exact blk_map_ne h.pool h.mo e.symm
  mv := h.mv.grown hg fun e => by injection e with e; exact blk_map_ne h.pool h.mv e.symm
  st := h.st.block_ (hg.block o h.mo.lt fun e => by injection e with e; exact blk_map_ne h.pool h.mo e.symm)
  chg := h.chg.trans (Chg.of_grown (F := F) hg fun r e => by injection e with e; subst e; exact .inl h.fg) fun b q => .inl q
  ox := h.ox
  oy := h.oy
  fg := h.fg
  fo_ := h.fo_
  fv := h.fv
  bt := h.bt
  old := h.old
  ov := h.ov
/-- The map of terms has been written. -/
theorem RF.mapo {m' : Nat} {f' : TD → Option Value} (h : RF base g bt o v F p t w a0 a1 x y nx ny m xs ys fo mw fw W) (hm : MapIs Try.prog 87 termV TD.wf V o m' f') (hs : Stamped V o) (hg : W.grownBy V (some o)) : RF base g bt o v F p t w a0 a1 x y nx ny m' xs ys f' mw fw V where
  box := h.box.grown hg fun e => by injection e with e; exact blk_map_ne h.box h.mo e
  pool := h.pool.grown hg fun e => by injection e with e; exact blk_map_ne h.pool h.mo e
  rx := own_block h.rx fun r q => hg.block r (own_ge h.rx r q).2 fun e => by injection e with e; subst e; exact own_map_ne h.rx h.mo q
  ry := own_block h.ry fun r q => hg.block r (own_ge h.ry r q).2 fun e => by injection e with e; subst e; exact own_map_ne h.ry h.mo q
  mo := hm
  mv := h.mv.grown hg fun e => by injection e with e; exact h.ov.1 e.symm
  st := hs
  chg := h.chg.trans (Chg.of_grown (F := F) hg fun r e => by injection e with e; subst e; exact .inl h.fo_) fun b q => .inl q
  ox := h.ox
  oy := h.oy
  fg := h.fg
  fo_ := h.fo_
  fv := h.fv
  bt := h.bt
  old := h.old
  ov := h.ov
/-- The map of variables has been written. -/
theorem RF.mapv {m' : Nat} {f' : Int → Option Value} (h : RF base g bt o v F p t w a0 a1 x y nx ny m xs ys fo mw fw W) (hm : MapIs Try.prog 46 (Value.int .u64) U64 V v m' f') (hg : W.grownBy V (some v)) : RF base g bt o v F p t w a0 a1 x y nx ny m xs ys fo m' f' V where
  box := h.box.grown hg fun e => by injection e with e; exact blk_map_ne h.box h.mv e
  pool := h.pool.grown hg fun e => by injection e with e; exact blk_map_ne h.pool h.mv e
  rx := own_block h.rx fun r q => hg.block r (own_ge h.rx r q).2 fun e => by injection e with e; subst e; exact own_map_ne h.rx h.mv q
  ry := own_block h.ry fun r q => hg.block r (own_ge h.ry r q).2 fun e => by injection e with e; subst e; exact own_map_ne h.ry h.mv q
  mo := h.mo.grown hg fun e => by injection e with e; exact h.ov.1 e
  mv := hm
  st := h.st.block_ (hg.block o h.mo.lt fun e => by injection e with e; exact h.ov.1 e)
  chg := h.chg.trans (Chg.of_grown (F := F) hg fun r e => by injection e with e; subst e; exact .inl h.fv) fun b q => .inl q
  ox := h.ox
  oy := h.oy
  fg := h.fg
  fo_ := h.fo_
  fv := h.fv
  bt := h.bt
  old := h.old
  ov := h.ov
/-- The same map, told otherwise. -/
theorem RF.mapw {m' : Nat} {f f' : Int → Option Value} (h : RF base g bt o v F p t w a0 a1 x y nx ny m xs ys fo mw fw W) (hm : MapIs Try.prog 46 (Value.int .u64) U64 W v m' f) (hf : ∀ q, f' q = f q) : RF base g bt o v F p t w a0 a1 x y nx ny m xs ys fo m' f' W where
  box := h.box
  pool := h.pool
  rx := h.rx
  ry := h.ry
  mo := h.mo
  mv := hm.congr hf
  st := h.st
  chg := h.chg
  ox := h.ox
  oy := h.oy
  fg := h.fg
  fo_ := h.fo_
  fv := h.fv
  bt := h.bt
  old := h.old
  ov := h.ov
/-- All has been written: the pool with one term more. -/
theorem RF.fin {d : Int} (h : RF base g bt o v F p t w x y x y (p.T.length + 1) (p.T.length + 1) (p.T.length + 1) (p.T.flatMap TD.cells ++ t.cells) (p.D.map (Value.int .i64) ++ [.int .i64 d]) (putF (ofF p.T) t (.int .i64 (p.T.length : Nat))) (p.T.length + 1) (wdF (p.T ++ [t])) W)
    (hwf : WfP ⟨p.T ++ [t], p.D ++ [d]⟩) (hr : ∀ u ∈ p.T, u.wf) (ht : t.wf) (hn : atT p.T t = none) (hfb : ∀ b, F b → base ≤ b) (hbase : base ≤ w.heap.size) :
    PoolAt W base (fun b => F b ∨ (w.heap.size ≤ b ∧ b < W.heap.size)) g ⟨p.T ++ [t], p.D ++ [d]⟩ where
  ex := by
    refine ⟨x, y, o, v, h.pool, ?_, ?_, ?_, ?_, h.st, h.ov.1, .inl h.fg, .inl h.fo_, .inl h.fv, fun b q => ?_, fun b q => ?_⟩
    · simpa using h.rx
    · simpa using h.ry
    · have := h.mo.congr (ofF_put hn)
      simpa using this
    · simpa using h.mv
    · have := (own_ge h.rx b q).2
      exact (h.ox b q).imp id fun e => ⟨by omega, this⟩
    · have := (own_ge h.ry b q).2
      exact (h.oy b q).imp id fun e => ⟨by omega, this⟩
  wf := hwf
  rng := fun u hu => by
    rcases List.mem_append.1 hu with q | q
    · exact hr u q
    · simp at q; rw [q]; exact ht
  fb := fun b q => by
    rcases q with q | q
    · have := h.old b q
      have := h.lt
      exact ⟨hfb b q, by omega⟩
    · exact ⟨by omega, q.2⟩
end
end Go.Proofs.Ytepagfkkjlbipaa
end
section
namespace Go.Proofs.Ytepagfkkjlbipaa
open Go.RowKit
set_option linter.unusedVariables false
set_option linter.unusedSimpArgs false
section
variable {κ : Type} {P : Program} {k : TypeId} {enc : κ → Value} {V : κ → Prop} {b n : Nat} {f : κ → Option Value}
theorem wpQuiet_look {ops : Array Oper} {rest : List Oper} {o : Oper} {a : Act} {W : World} {Q : Act → Prop} (hgd : o.guard = none) (m y : Operand) (t : TypeId) (hop : o.op = .lookup t m y true) (e : TypeId) (E : KeyEnc P k enc V) (ht : P.underlying t = some (.map k e)) (z : Value)
    (hz : ∀ w, (zeroValue e).run P w = .ok z w) (h : MapIs P k enc V W b n f) (x : κ) (hx : V x) (hm : a.eval m = .map (some b)) (hy : a.eval y = enc x) (v : Value) (c : Bool) (hv : (f x).getD z = v) (hc : (f x).isSome = c)
    (hK : wpQuiet P ops (fun w' => ∃ n, w' = W.drewN n) Q rest (a.put o.dst (.tuple #[v, .bool c]))) : wpQuiet P ops (fun w' => ∃ n, w' = W.drewN n) Q (o :: rest) a := by
  have hw : Region.wanted o (yielded ops a.tmps) = true := by simp [Region.wanted, hgd]
  unfold wpQuiet
  rw [if_pos hw]
  subst hv hc
  refine ⟨_, ?_, hK⟩
  rintro w ⟨n, rfl⟩
  unfold Oper.quietAt execOp
  have := (h.drewN n).look E ht (hz _) x hx true
  simp only [hop, hm, hy, Sem.run_bind, this, Result.andThen_ok, Sem.run_pure]
  exact ⟨rfl, rfl⟩
end
end Go.Proofs.Ytepagfkkjlbipaa
end
section
namespace Go.Proofs.Ytepagfkkjlbipaa
open Go.RowKit
set_option linter.unusedVariables false
set_option linter.unusedSimpArgs false
section
variable {P : Program}
/-- .. all of a variable just made, the world under a name. -/
theorem wpList_store_new {ops : Array Oper} {rest : List Oper} {o : Oper} {a : Act} {w : World} {Q : Exit → Act → World → Prop} (hgd : o.guard = none) (ty : TypeId) (x y : Operand) (ho : o.op = .store ty x y)
    (cs : Array Value) (vs : List Value) (v : Value) (hx : a.eval x = .pointer (some ⟨w.heap.size, 0, none⟩)) (hy : a.eval y = v) (hv : v.cells = vs.toArray) (hi : (P.info? ty).map (·.size) = some vs.length)
    (hl : cs.size = vs.length) (h1 : ∀ u ∈ vs, u.oneCell' = true)
    (h : ∀ w', Blk w' w.heap.size ty vs.toArray → Below w.heap.size w w' → w'.heap.size = w.heap.size + 1 → wpList P ops Q rest (a.put o.dst undef) w') : wpList P ops Q (o :: rest) a (w.alloc (.cells cs ty)) := by
  refine wpList_store_at hgd ty x y ho w.heap.size 0 ty cs.toList vs v (by simpa using Blk.new w ty cs) hx hy hv hi (by simp [hl]) h1 fun w' hB hg hs => ?_
  have he : overC cs.toList 0 vs = vs := by
    unfold overC
    rw [List.take_zero, List.nil_append, Nat.zero_add, List.drop_of_length_le (by simp [hl]), List.append_nil]
  rw [he] at hB
  exact h w' hB (((Below.refl _ _).alloc (Nat.le_refl _) _).grown hg (le_alloc _ (Nat.le_refl _)) (fun g e => by injection e with e; omega)) (by simpa using hs)
end
end Go.Proofs.Ytepagfkkjlbipaa
end
section
namespace Go.Proofs.Ytepagfkkjlbipaa
open Go.RowKit
set_option linter.unusedVariables false
set_option linter.unusedSimpArgs false
section
variable {P : Program}
end
end Go.Proofs.Ytepagfkkjlbipaa
end
