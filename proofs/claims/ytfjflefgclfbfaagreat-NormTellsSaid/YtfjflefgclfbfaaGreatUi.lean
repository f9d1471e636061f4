/-
  What stands while the laws make terms: a pool and the numbers that were made; two of each. Conditions: those written in each statement.
-/
import Derived.Test.YtfjflefgclfbfaaGreatUf
import Derived.Test.YtfjflefgclfbfaaGreatKc
namespace Go.Proofs.YtfjflefgclfbfaaGreat
open Go.RowKit
set_option linter.unusedVariables false
set_option linter.unusedSimpArgs false
set_option maxRecDepth 100000
section
variable {P : Program}
/-- out = append(out, v), and where it lies. -/
theorem wpList_push2 {ops : Array Oper} {rest : List Oper} {o1 o2 : Oper} {a : Act} {w : World} {Q : Exit → Act → World → Prop} (hg1 : o1.guard = none) (hg2 : o2.guard = none) (t e : TypeId) (x s y : Operand)
    (ho1 : o1.op = .buildSlice t 1 #[(0, x)]) (ho2 : o2.op = .call { callee := .builtin .append, args := #[s, y], argTypes := #[t, t] })
    (base size bytes : Nat) (i0 : TypeInfo) (z v sv : Value) (cs xs : List Value) (n : Nat) (ht : P.underlying t = some (.slice e)) (hi : P.info? e = some i0) (hz : i0.zero = some z) (hs : i0.size = size) (hb : i0.bytes = bytes)
    (hzs : z.cells.size = size) (h0 : 0 < size) (hs0 : size ≤ 1024) (hx : a.eval x = v) (hcs : v.cells = cs.toArray) (hvs : cs.length = size) (h1 : ∀ u ∈ cs, u.oneCell' = true)
    (hown : w.ownsRow base e size sv n xs) (hbase : base ≤ w.heap.size) (h63 : n + 1 ≤ maxLen) (hbytes : (n + 1) * bytes ≤ 140737488355328)
    (hsv : (a.put o1.dst (.slice (some ⟨w.heap.size, 0, none⟩) 1 1)).eval s = sv) (hy : (a.put o1.dst (.slice (some ⟨w.heap.size, 0, none⟩) 1 1)).eval y = .slice (some ⟨w.heap.size, 0, none⟩) 1 1)
    (h : ∀ v' w' g, w.heap.size ≤ g → w'.ownsRow base e size v' (n + 1) (xs ++ cs) → Below base w w' → w.grownBy w' sv.ownBlock → (∀ b, v'.ownBlock = some b → sv.ownBlock = some b ∨ w.heap.size ≤ b) → wpList P ops Q rest ((a.put o1.dst (.slice (some ⟨g, 0, none⟩) 1 1)).put o2.dst v') w') : wpList P ops Q (o1 :: o2 :: rest) a w := by
  subst hs hb
  refine wpList_plain hg1 fun K hK => ?_
  unfold Oper.wp execOp
  have hrun := run_buildSlice_one (P := P) w t e i0 z v ht hi hz hs0 h0 (by rw [hcs]; simpa using hvs)
  simp only [ho1, Sem.run_bind, List.map_toArray, List.map_cons, List.map_nil, hx, hrun, Result.andThen_ok, Sem.run_pure]
  refine hK _ _ ?_
  have hown' := hown.alloc (Obj.cells v.cells e)
  have hnew : Reads (w.alloc (.cells v.cells e)) (w.heap.size + 1) i0.size (some ⟨w.heap.size, 0, none⟩) 1 cs := by
    refine ⟨by omega, fun _ => ⟨_, rfl, Nat.lt_succ_self _, fun j u hu => ?_⟩⟩
    rw [show (⟨w.heap.size, 0, none⟩ : Addr).add j = ⟨w.heap.size, j, none⟩ from by unfold Addr.add; split <;> simp_all]
    rw [(Blk.new w e v.cells).cell j, hcs]
    simpa using hu
  refine wpList_append_any _ hg2 s y t ho2 base e i0 z i0.size i0.bytes ht hi hz rfl rfl hzs h0 sv n xs hsv hown' _ _ 1 1 cs hy hnew h1 h63 hbytes (by simp; omega) fun v' w' q1 q2 q3 => ?_
  have hgr : w.grownBy w' sv.ownBlock := (World.grownBy_alloc w _ sv.ownBlock).trans q2
  exact h v' w' _ (Nat.le_refl _) q1 ((Below.refl _ _).grown hgr hbase (fun g hg => by
    rcases hown.2 with ⟨hsv0, _⟩ | ⟨g', cap, cur, hsv0, hg', _⟩
    · rw [hsv0] at hg; simp [Value.ownBlock] at hg
    · rw [hsv0] at hg; simp [Value.ownBlock] at hg; omega)) hgr fun b hb => by
    rcases q3 with e | e
    · exact .inl (e ▸ hb)
    · rw [e] at hb
      injection hb with hb
      simp at hb
      exact .inr (by omega)
end
theorem sizMd : (Tryz.prog.info? 33).map (·.size) = some 7 := by kernel_rfl
theorem MD.one (x : MD) : ∀ u ∈ x.cells, u.oneCell' = true := by
  intro u hu
  simp [MD.cells] at hu
  rcases hu with rfl | rfl | rfl | rfl | rfl | rfl | rfl <;> rfl
/-- What stands behind a making: the pool, and the numbers of those that were made. -/
def nextL (l : List Int) (r : RS) : List Int := if r.2.2 = 0 then l ++ [r.2.1] else l
/-- A row of numbers of the call's own, beside a pool's blocks. -/
structure RowN (B : Nat) (l : List Int) (sv : Value) (F : Nat → Prop) (W : World) : Prop where
  own : W.ownsRow B 3 1 sv l.length (l.map (Value.int .i64))
  nf : ∀ b, sv.ownBlock = some b → ¬ F b
section
variable {B base g : Nat} {l : List Int} {sv : Value} {F F' G : Nat → Prop} {W V : World} {p p' : PS}
theorem RowN.nil (B : Nat) (F : Nat → Prop) (W : World) : RowN B [] (.slice none 0 0) F W := ⟨⟨rfl, .inl ⟨rfl, rfl⟩⟩, fun b q => by cases q⟩
theorem RowN.chg (h : RowN B l sv F W) (hc : Chg G W V) (hg : ∀ b, sv.ownBlock = some b → ¬ G b) : RowN B l sv F V := ⟨hc.own h.own hg, h.nf⟩
theorem RowN.below (h : RowN B l sv F W) (hb : Below W.heap.size W V) : RowN B l sv F V := h.chg (G := fun _ => False) (.of_below hb) fun _ _ q => q
theorem RowN.pg (h : RowN B l sv F W) (k : PG base g F W F' p V) : RowN B l sv F' V :=
  ⟨k.chg.own h.own h.nf, fun b q r => (k.new b r).elim (h.nf b q) fun e => by have := (own_ge h.own b q).2; omega⟩
theorem RowN.slice (h : RowN B l sv F W) : ∃ A c, sv = .slice A l.length c ∧ l.length ≤ c ∧ Reads W W.heap.size 1 A l.length (l.map (Value.int .i64)) := by
  obtain ⟨A, c, e, h1, h2⟩ := (RowL.of_own h.own).slice
  exact ⟨A, c, e, h1, h2⟩
/-- Where a row is appended to, the pool lies on. -/
theorem row_pool (hr : RowN B l sv F W) (hp : PoolAt W base F g p) (hg : W.grownBy V sv.ownBlock) : PoolAt V base F g p :=
  hp.chg (G := fun b => sv.ownBlock = some b) (Chg.of_grown hg fun r e => .inl e) fun b q e => hr.nf b e q
end
/-- One pool, one row. -/
structure K1 (w : World) (g : Nat) (p : PS) (F : Nat → Prop) (l : List Int) (sv : Value) (W : World) : Prop where
  pool : PoolAt W w.heap.size F g p
  row : RowN w.heap.size l sv F W
  below : Below w.heap.size w W
  ib : ∀ v ∈ l, I64 v
section
variable {w W V : World} {g g2 B2 : Nat} {p q p' q' : PS} {F F2 F' F2' : Nat → Prop} {l l2 : List Int} {sv sv2 : Value}
theorem K1.step (h : K1 w g p F l sv W) (hb : Below W.heap.size W V) : K1 w g p F l sv V := ⟨h.pool.below hb, h.row.below hb, h.below.trans (hb.mono h.below.size), h.ib⟩
theorem K1.pg (h : K1 w g p F l sv W) (k : PG w.heap.size g F W F' p' V) : K1 w g p' F' l sv V :=
  ⟨k.pool, h.row.pg k, h.below.trans (k.chg.below (fun b q => (h.pool.fb b q).1) h.below.size), h.ib⟩
theorem K1.push (h : K1 w g p F l sv W) {v : Int} (hv : I64 v) {s' : Value} (ho : V.ownsRow w.heap.size 3 1 s' (l.length + 1) (l.map (Value.int .i64) ++ [.int .i64 v])) (hg : W.grownBy V sv.ownBlock) (hn : ∀ b, s'.ownBlock = some b → sv.ownBlock = some b ∨ W.heap.size ≤ b) : K1 w g p F (l ++ [v]) s' V where
  pool := row_pool h.row h.pool hg
  row := ⟨by rw [List.length_append, List.map_append]; exact ho, fun b q r => (hn b q).elim (fun e => h.row.nf b e r) fun e => by have := (h.pool.fb b r).2; omega⟩
  below := h.below.trans ((Below.refl w.heap.size W).grown hg h.below.size fun b q => (own_ge h.row.own b q).1)
  ib := fun u hu => by
    rcases List.mem_append.1 hu with e | e
    · exact h.ib u e
    · simp at e; rw [e]; exact hv
/-- Two pools, two rows: nothing of one is the other's. -/
structure K2 (w : World) (B2 g g2 : Nat) (p q : PS) (F F2 : Nat → Prop) (l l2 : List Int) (sv sv2 : Value) (W : World) : Prop where
  p1 : PoolAt W w.heap.size F g p
  p2 : PoolAt W B2 F2 g2 q
  ge : w.heap.size ≤ B2 ∧ B2 ≤ W.heap.size
  dis : ∀ b, F b → F2 b → False
  r1 : RowN w.heap.size l sv F W
  r1' : ∀ b, sv.ownBlock = some b → ¬ F2 b
  r2 : RowN w.heap.size l2 sv2 F2 W
  r2' : ∀ b, sv2.ownBlock = some b → ¬ F b
  ne : ∀ b, sv.ownBlock = some b → sv2.ownBlock ≠ some b
  below : Below w.heap.size w W
  ib : ∀ v ∈ l, I64 v
  ib2 : ∀ v ∈ l2, I64 v
theorem K2.step (h : K2 w B2 g g2 p q F F2 l l2 sv sv2 W) (hb : Below W.heap.size W V) : K2 w B2 g g2 p q F F2 l l2 sv sv2 V :=
  ⟨h.p1.below hb, h.p2.below hb, ⟨h.ge.1, Nat.le_trans h.ge.2 hb.size⟩, h.dis, h.r1.below hb, h.r1', h.r2.below hb, h.r2', h.ne, h.below.trans (hb.mono h.below.size), h.ib, h.ib2⟩
theorem K2.pg1 (h : K2 w B2 g g2 p q F F2 l l2 sv sv2 W) (k : PG w.heap.size g F W F' p' V) : K2 w B2 g g2 p' q F' F2 l l2 sv sv2 V :=
  ⟨k.pool, h.p2.chg k.chg (fun b h2 h1 => h.dis b h1 h2), ⟨h.ge.1, Nat.le_trans h.ge.2 k.size⟩, fun b h1 h2 => (k.new b h1).elim (fun e => h.dis b e h2) fun e => by have := (h.p2.fb b h2).2; omega,
    h.r1.pg k, h.r1', h.r2.chg k.chg h.r2', fun b e r => (k.new b r).elim (h.r2' b e) fun z => by have := (own_ge h.r2.own b e).2; omega, h.ne, h.below.trans (k.chg.below (fun b q => (h.p1.fb b q).1) h.below.size), h.ib, h.ib2⟩
theorem K2.pg2 (h : K2 w B2 g g2 p q F F2 l l2 sv sv2 W) (k : PG B2 g2 F2 W F2' q' V) : K2 w B2 g g2 p q' F F2' l l2 sv sv2 V :=
  ⟨h.p1.chg k.chg h.dis, k.pool, ⟨h.ge.1, Nat.le_trans h.ge.2 k.size⟩, fun b h1 h2 => (k.new b h2).elim (fun e => h.dis b h1 e) fun e => by have := (h.p1.fb b h1).2; omega,
    h.r1.chg k.chg h.r1', fun b e r => (k.new b r).elim (h.r1' b e) fun z => by have := (own_ge h.r1.own b e).2; omega, h.r2.pg k, h.r2', h.ne, h.below.trans (k.chg.below (fun b q => Nat.le_trans h.ge.1 (h.p2.fb b q).1) h.below.size), h.ib, h.ib2⟩
theorem K2.push1 (h : K2 w B2 g g2 p q F F2 l l2 sv sv2 W) {v : Int} (hv : I64 v) {s' : Value} (ho : V.ownsRow w.heap.size 3 1 s' (l.length + 1) (l.map (Value.int .i64) ++ [.int .i64 v])) (hg : W.grownBy V sv.ownBlock) (hn : ∀ b, s'.ownBlock = some b → sv.ownBlock = some b ∨ W.heap.size ≤ b) : K2 w B2 g g2 p q F F2 (l ++ [v]) l2 s' sv2 V where
  p1 := row_pool h.r1 h.p1 hg
  p2 := h.p2.chg (G := fun b => sv.ownBlock = some b) (Chg.of_grown hg fun r e => .inl e) fun b r e => h.r1' b e r
  ge := ⟨h.ge.1, Nat.le_trans h.ge.2 hg.size⟩
  dis := h.dis
  r1 := ⟨by rw [List.length_append, List.map_append]; exact ho, fun b q r => (hn b q).elim (fun e => h.r1.nf b e r) fun e => by have := (h.p1.fb b r).2; omega⟩
  r1' := fun b q r => (hn b q).elim (fun e => h.r1' b e r) fun e => by have := (h.p2.fb b r).2; omega
  r2 := h.r2.chg (G := fun b => sv.ownBlock = some b) (Chg.of_grown hg fun r e => .inl e) fun b e q => h.ne b q e
  r2' := h.r2'
  ne := fun b q e => (hn b q).elim (fun z => h.ne b z e) fun z => by have := (own_ge h.r2.own b e).2; omega
  below := h.below.trans ((Below.refl w.heap.size W).grown hg h.below.size fun b q => (own_ge h.r1.own b q).1)
  ib := fun u hu => by
    rcases List.mem_append.1 hu with e | e
    · exact h.ib u e
    · simp at e; rw [e]; exact hv
  ib2 := h.ib2
theorem K2.push2 (h : K2 w B2 g g2 p q F F2 l l2 sv sv2 W) {v : Int} (hv : I64 v) {s' : Value} (ho : V.ownsRow w.heap.size 3 1 s' (l2.length + 1) (l2.map (Value.int .i64) ++ [.int .i64 v])) (hg : W.grownBy V sv2.ownBlock) (hn : ∀ b, s'.ownBlock = some b → sv2.ownBlock = some b ∨ W.heap.size ≤ b) : K2 w B2 g g2 p q F F2 l (l2 ++ [v]) sv s' V where
  p1 := h.p1.chg (G := fun b => sv2.ownBlock = some b) (Chg.of_grown hg fun r e => .inl e) fun b r e => h.r2' b e r
  p2 := row_pool h.r2 h.p2 hg
  ge := ⟨h.ge.1, Nat.le_trans h.ge.2 hg.size⟩
  dis := h.dis
  r1 := h.r1.chg (G := fun b => sv2.ownBlock = some b) (Chg.of_grown hg fun r e => .inl e) fun b e q => h.ne b e q
  r1' := h.r1'
  r2 := ⟨by rw [List.length_append, List.map_append]; exact ho, fun b q r => (hn b q).elim (fun e => h.r2.nf b e r) fun e => by have := (h.p2.fb b r).2; omega⟩
  r2' := fun b q r => (hn b q).elim (fun e => h.r2' b e r) fun e => by have := (h.p1.fb b r).2; omega
  ne := fun b e q => (hn b q).elim (fun z => h.ne b e z) fun z => by have := (own_ge h.r1.own b e).2; omega
  below := h.below.trans ((Below.refl w.heap.size W).grown hg h.below.size fun b q => (own_ge h.r2.own b q).1)
  ib := h.ib
  ib2 := fun u hu => by
    rcases List.mem_append.1 hu with e | e
    · exact h.ib2 u e
    · simp at e; rw [e]; exact hv
end
/-- What is made when several are made, one behind the other. -/
inductive Runs : PS → List Int → List MD → PS → List Int → Prop where
  | nil (p : PS) (l : List Int) : Runs p l [] p l
  | snoc {p : PS} {l : List Int} {xs : List MD} {q : PS} {m : List Int} {x : MD} {r : RS} (h : Runs p l xs q m) (hr : MkS q x m r) : Runs p l (xs ++ [x]) r.1 (nextL m r)
theorem Runs.len {p q : PS} {l m : List Int} {xs : List MD} (h : Runs p l xs q m) : m.length ≤ l.length + xs.length := by
  induction h with
  | nil => omega
  | snoc h hr ih =>
    unfold nextL
    split
    · simp; omega
    · simp; omega
end Go.Proofs.YtfjflefgclfbfaaGreat
