/-
  The machine that goes through a block, in memory: its pool, its registers, its events, its exit, its first error. Conditions: those written in each statement.
  What norm answers are numbers of Go's. Conditions: those written in each statement.
  Contracts of symbc's small methods: made, number. Conditions: those written in each statement.
  Steps in regions that draw their order, at the machine: an element of an array, the machine's registers as they lie. Conditions: those written in each statement.
  The machine writes an event, its exit. Conditions: those written in each statement.
-/
import Derived.Test.YtepagfkkjlbipaaKas
import Derived.Test.YtepagfkkjlbipaaKac
import Derived.Test.YtepagfkkjlbipaaKan
import Derived.Deep.DeepCutAuto
import Derived.Test.YtepagfkkjlbipaaKaf
section
namespace Go.Proofs.Ytepagfkkjlbipaa
open Go.RowKit
set_option linter.unusedVariables false
set_option linter.unusedSimpArgs false
set_option maxRecDepth 100000
/-- The machine's cells. -/
def mC (g : Nat) (regs : List Int) (es : Value) (ex : ExD) (er : Int) : List Value :=
  .pointer (some ⟨g, 0, none⟩) :: (regs.map (Value.int .i64) ++ [es, .int .i8 ex.kind, .int .i64 ex.v, .int .i64 ex.tgt, .int .i64 ex.els, .int .i64 er])
section
variable {g : Nat} {regs : List Int} {es es' : Value} {ex ex' : ExD} {er er' : Int}
theorem mC_reg (hl : regs.length = 11) {d : Nat} (hd : d < 11) : (mC g regs es ex er)[1 + d]? = some (.int .i64 (regs.getD d 0)) := by
  unfold mC
  rw [Nat.add_comm, List.getElem?_cons_succ, List.getElem?_append_left (by simp; omega), List.getElem?_map, List.getD_eq_getElem?_getD, List.getElem?_eq_getElem (by omega)]
  rfl
theorem mC_tail (hl : regs.length = 11) (k : Nat) : (mC g regs es ex er)[12 + k]? = ([es, .int .i8 ex.kind, .int .i64 ex.v, .int .i64 ex.tgt, .int .i64 ex.els, .int .i64 er] : List Value)[k]? := by
  unfold mC
  rw [show 12 + k = (11 + k) + 1 by omega, List.getElem?_cons_succ, List.getElem?_append_right (by simp; omega)]
  congr 1
  simp
  omega
theorem mC_len (hl : regs.length = 11) : (mC g regs es ex er).length = 18 := by unfold mC; simp; omega
theorem mC_setReg (hl : regs.length = 11) {d : Nat} (hd : d < 11) (n : Int) : (mC g regs es ex er).set (1 + d) (.int .i64 n) = mC g (regs.set d n) es ex er := by
  unfold mC
  rw [Nat.add_comm, List.set_cons_succ, List.set_append_left _ _ (by simp; omega), List.map_set]
theorem mC_setEs (hl : regs.length = 11) : (mC g regs es ex er).set 12 es' = mC g regs es' ex er := by
  unfold mC
  rw [show 12 = 11 + 1 by omega, List.set_cons_succ, List.set_append_right _ _ (by simp; omega)]
  simp [hl]
theorem mC_setErr (hl : regs.length = 11) : (mC g regs es ex er).set 17 (.int .i64 er') = mC g regs es ex er' := by
  unfold mC
  rw [show 17 = 16 + 1 by omega, List.set_cons_succ, List.set_append_right _ _ (by simp; omega)]
  simp [hl]
theorem mC_over (hl : regs.length = 11) : overC (mC g regs es ex er) 13 [.int .i8 ex'.kind, .int .i64 ex'.v, .int .i64 ex'.tgt, .int .i64 ex'.els] = mC g regs es ex' er := by
  unfold overC mC
  match regs, hl with
  | [a0, a1, a2, a3, a4, a5, a6, a7, a8, a9, a10], _ => rfl
end
/-- What the events' blocks lie apart from. -/
def Up (G : Nat → Prop) (b k : Nat) : Prop := G k ∨ k ≤ b
/-- The machine lies at block b; F: its pool's blocks, G: all that is its own. -/
structure MA (base g b : Nat) (F G : Nat → Prop) (m : SM) (ex : ExD) (w : World) : Prop where
  pool : PoolAt w base F g m.p
  box : ∃ es, ∃ q : List (EvD × Value), Blk w b 72 (mC g m.regs es ex m.err).toArray ∧ w.ownsRow (b + 1) 51 6 es m.evs.length (q.flatMap evC) ∧ q.map (·.1) = m.evs ∧ (∀ p ∈ q, p.1.wf ∧ NumsF w (Up G b) p.2 p.1.args) ∧ ∀ k, es.ownBlock = some k → G k ∧ ¬ F k ∧ k ≠ b
  nb : ¬ F b ∧ G b
  sub : ∀ k, F k → G k
  low : ∀ k, G k → base ≤ k ∧ k < w.heap.size
  len : m.regs.length = 11
  rng : ∀ r ∈ m.regs, I64 r
  few : m.evs.length ≤ 64
/-- .. and has gone on, from a world. -/
structure MG (base g b : Nat) (G : Nat → Prop) (w : World) (F' G' : Nat → Prop) (m : SM) (ex : ExD) (w' : World) : Prop where
  at_ : MA base g b F' G' m ex w'
  chg : Chg G w w'
  new : ∀ k, G' k → G k ∨ w.heap.size ≤ k
section
variable {base g b : Nat} {F G F1 G1 F2 G2 : Nat → Prop} {m m1 m2 : SM} {ex ex1 ex2 : ExD} {w w1 w2 : World} {p1 : PS}
theorem MG.refl (h : MA base g b F G m ex w) : MG base g b G w F G m ex w := ⟨h, Chg.refl _ _, fun k q => .inl q⟩
theorem MG.trans (h : MG base g b G w F1 G1 m1 ex1 w1) (k : MG base g b G1 w1 F2 G2 m2 ex2 w2) : MG base g b G w F2 G2 m2 ex2 w2 :=
  ⟨k.at_, h.chg.trans k.chg h.new, fun b q => (k.new b q).elim (h.new b) (fun e => .inr (Nat.le_trans h.chg.size e))⟩
theorem MG.size (h : MG base g b G w F1 G1 m1 ex1 w1) : w.heap.size ≤ w1.heap.size := h.chg.size
/-- A variable of the caller's lies on. -/
theorem MG.blk (h : MG base g b G w F1 G1 m1 ex1 w1) {c : Nat} {t : TypeId} {cs : Array Value} (hb : Blk w c t cs) (hg : ¬ G c) : Blk w1 c t cs ∧ ¬ G1 c :=
  ⟨h.chg.blk hb hg, fun q => (h.new c q).elim hg (fun e => by have := hb.lt; omega)⟩
/-- Behind what lets all lie. -/
theorem MA.below (h : MA base g b F G m ex w) (hb : Below w.heap.size w w1) : MA base g b F G m ex w1 := by
  obtain ⟨es, q, h1, h2, h3, h4, h5⟩ := h.box
  exact ⟨h.pool.below hb, ⟨es, q, h1.below hb h1.lt, (RowL.of_own h2).below hb |> fun _ => own_block h2 (fun k hk => hb.block k (own_ge h2 k hk).2), h3, fun p hp => ⟨(h4 p hp).1, (h4 p hp).2.chg (.of_below hb) (fun k hk => .inr hk) (fun k hk => .inl hk)⟩, h5⟩, h.nb, h.sub, fun k hk => ⟨(h.low k hk).1, Nat.lt_of_lt_of_le (h.low k hk).2 hb.size⟩, h.len, h.rng, h.few⟩
theorem MG.step (h : MG base g b G w F1 G1 m1 ex1 w1) (hb : Below w1.heap.size w1 w2) : MG base g b G w F1 G1 m1 ex1 w2 := h.trans ⟨h.at_.below hb, Chg.of_below hb |>.mono (fun _ q => .inr q), fun k q => .inl q⟩
theorem MG.of_below (h : MA base g b F G m ex w) (hb : Below w.heap.size w w1) : MG base g b G w F G m ex w1 := (MG.refl h).step hb
/-- The pool has gone on. -/
theorem MA.pg (h : MA base g b F G m ex w) (k : PG base g F w F1 p1 w1) : MG base g b G w F1 (fun c => G c ∨ F1 c) { m with p := p1 } ex w1 := by
  obtain ⟨es, q, h1, h2, h3, h4, h5⟩ := h.box
  have hb := k.blk h1 h.nb.1
  have hc : Chg G w w1 := k.chg.mono (fun c q => .inl (h.sub c q))
  refine ⟨⟨k.pool, ⟨es, q, hb.1, k.chg.own h2 (fun c hc => (h5 c hc).2.1), h3, fun p hp => ⟨(h4 p hp).1, (h4 p hp).2.chg hc (fun c q => .inl (.inl q)) (fun c q => q.elim (fun q => q.elim (fun q => .inl (.inl q)) (fun q => (k.new c q).elim (fun q => .inl (.inl (h.sub c q))) .inr)) (fun q => .inl (.inr q)))⟩, fun c hc => ⟨.inl (h5 c hc).1, fun q => (k.new c q).elim (h5 c hc).2.1 (fun e => by have := (own_ge h2 c hc).2; omega), (h5 c hc).2.2⟩⟩, ⟨hb.2, .inl h.nb.2⟩, fun c q => .inr q, fun c q => ?_, h.len, h.rng, h.few⟩, hc, fun c q => q.elim .inl (fun q => (k.new c q).elim (fun q => .inl (h.sub c q)) .inr)⟩
  rcases q with q | q
  · have := h.low c q
    have := k.chg.size
    omega
  · exact k.pool.fb c q
theorem chg_setCell {c : Addr} (hc : c.block = b) (u : Value) (hG : G b) : Chg G w (w.setCell c u) :=
  ⟨rfl, rfl, rfl, by simp, fun k hk hn => Below.heap_setCell w c u k (fun e => hn (by rw [e, hc]; exact hG))⟩
/-- A cell of the machine's is written. -/
theorem MA.cell (h : MA base g b F G m ex w) {i : Nat} {u : Value} {m1 : SM} {ex1 : ExD} (hp : m1.p = m.p) (he : m1.evs = m.evs) (hl : m1.regs.length = 11) (hr : ∀ r ∈ m1.regs, I64 r)
    (hs : ∀ es, (mC g m.regs es ex m.err).set i u = mC g m1.regs es ex1 m1.err) : MG base g b G w F G m1 ex1 (w.setCell ⟨b, i, none⟩ u) := by
  obtain ⟨es, q, h1, h2, h3, h4, h5⟩ := h.box
  have hc : Chg G w (w.setCell ⟨b, i, none⟩ u) := chg_setCell rfl u h.nb.2
  have hcF : Chg (fun k => k = b) w (w.setCell ⟨b, i, none⟩ u) := chg_setCell (b := b) rfl u rfl
  have hB := h1.set_ i u
  rw [List.setIfInBounds_toArray, hs] at hB
  refine ⟨⟨?_, ⟨es, q, hB, ?_, by rw [he]; exact h3, fun p hp => ⟨(h4 p hp).1, (h4 p hp).2.chg hc (fun c q => .inl (.inl q)) (fun c q => .inl q)⟩, h5⟩, h.nb, h.sub, fun k hk => ⟨(h.low k hk).1, Nat.lt_of_lt_of_le (h.low k hk).2 hc.size⟩, hl, hr, by rw [he]; exact h.few⟩, hc, fun k q => .inl q⟩
  · rw [hp]; exact h.pool.chg hcF (fun c q e => h.nb.1 (e ▸ q))
  · rw [he]; exact hcF.own h2 (fun c hc e => (h5 c hc).2.2 e)
theorem MA.setErr (h : MA base g b F G m ex w) (er : Int) : MG base g b G w F G { m with err := er } ex (w.setCell ⟨b, 17, none⟩ (.int .i64 er)) :=
  h.cell rfl rfl h.len h.rng (fun es => mC_setErr h.len)
theorem MA.setReg (h : MA base g b F G m ex w) {d : Nat} (hd : d < 11) {n : Int} (hn : I64 n) : MG base g b G w F G { m with regs := m.regs.set d n } ex (w.setCell ⟨b, 1 + d, none⟩ (.int .i64 n)) :=
  h.cell rfl rfl (by rw [List.length_set]; exact h.len) (fun r hr => (List.mem_or_eq_of_mem_set hr).elim (h.rng r) (fun e => e ▸ hn)) (fun es => mC_setReg h.len hd n)
/-- What the machine's cells are. -/
theorem MA.cp (h : MA base g b F G m ex w) : w.cell? ⟨b, 0, none⟩ = some (.pointer (some ⟨g, 0, none⟩)) := by
  obtain ⟨es, q, h1, _⟩ := h.box
  rw [h1.cell 0]
  rfl
theorem MA.creg (h : MA base g b F G m ex w) {d : Nat} (hd : d < 11) : w.cell? ⟨b, 1 + d, none⟩ = some (.int .i64 (m.regs.getD d 0)) := by
  obtain ⟨es, q, h1, _⟩ := h.box
  rw [h1.cell (1 + d), List.getElem?_toArray]
  exact mC_reg h.len hd
theorem MA.cerr (h : MA base g b F G m ex w) : w.cell? ⟨b, 17, none⟩ = some (.int .i64 m.err) := by
  obtain ⟨es, q, h1, _⟩ := h.box
  rw [h1.cell 17, List.getElem?_toArray]
  exact mC_tail h.len 5
theorem MA.ces (h : MA base g b F G m ex w) : ∃ es, ∃ q : List (EvD × Value), w.cell? ⟨b, 12, none⟩ = some es ∧ Blk w b 72 (mC g m.regs es ex m.err).toArray ∧ w.ownsRow (b + 1) 51 6 es m.evs.length (q.flatMap evC) ∧ q.map (·.1) = m.evs ∧ (∀ p ∈ q, p.1.wf ∧ NumsF w (Up G b) p.2 p.1.args) ∧ ∀ k, es.ownBlock = some k → G k ∧ ¬ F k ∧ k ≠ b := by
  obtain ⟨es, q, h1, h2⟩ := h.box
  refine ⟨es, q, ?_, h1, h2⟩
  rw [h1.cell 12, List.getElem?_toArray]
  exact mC_tail h.len 0
theorem MA.lt (h : MA base g b F G m ex w) : b < w.heap.size := (h.low b h.nb.2).2
theorem getD_mem {l : List Int} {d : Nat} (h : d < l.length) : l.getD d 0 ∈ l := by
  rw [List.getD_eq_getElem?_getD, List.getElem?_eq_getElem h]
  exact List.getElem_mem h
theorem MA.reg_i64 (h : MA base g b F G m ex w) {d : Nat} (hd : d < 11) : I64 (m.regs.getD d 0) := h.rng _ (getD_mem (by rw [h.len]; exact hd))
/-- What a method of the machine's answers. -/
def MRet (base g b : Nat) (G : Nat → Prop) (ex : ExD) (w : World) (r : SM × Int) (e : Ending) (w' : World) : Prop := e = .returned (.int .i64 r.2) ∧ I64 r.2 ∧ ∃ F' G', MG base g b G w F' G' r.1 ex w'
theorem MRet.from {r : SM × Int} {e : Ending} (h : MG base g b G w F1 G1 m1 ex1 w1) (k : MRet base g b G1 ex w1 r e w2) : MRet base g b G ex w r e w2 := by
  obtain ⟨h1, hi, F2, G2, h2⟩ := k
  exact ⟨h1, hi, F2, G2, h.trans h2⟩
end
end Go.Proofs.Ytepagfkkjlbipaa
end
section
namespace Go.Proofs.Ytepagfkkjlbipaa
open Go.RowKit
set_option linter.unusedVariables false
set_option linter.unusedSimpArgs false
set_option maxRecDepth 100000
theorem i64_zero : I64 0 := by unfold I64; omega
/-- A condition's number is one of Go's. -/
theorem cond_i64 : ∀ (f : Nat) {p : PS} (hw : WfP p) (hr : ∀ t ∈ p.T, t.wf) {cc x a b : Int} (ha : I64 a) (hb : I64 b) {q : RS} (h : condF f p cc x a b = some q), I64 q.2.1
  | 0, _, _, _, _, _, _, _, _, _, _, h => by cases h
  | f + 1, p, hw, hr, cc, x, a, b, ha, hb, q, h => by
    rw [condF_succ] at h
    split at h
    · injection h with h; subst h; unfold I64; dsimp only; omega
    split at h
    · injection h with h; subst h; unfold I64; dsimp only; omega
    split at h
    · have hi := both_i64 hw hr ha hb x
      have hw2 := both_wf hw hr ha hb x
      unfold condL at h
      dsimp only at h
      split at h
      · injection h with h; subst h; exact putN_i64 hw2.1 _
      split at h
      · injection h with h; subst h; exact putN_i64 hw2.1 _
      split at h
      · exact cond_i64 f hw2.1 hw2.2 hi.2 hi.1 h
      split at h
      · injection h with h; subst h; exact putN_i64 hw2.1 _
      · injection h with h; subst h; exact putN_i64 hw2.1 _
    · injection h with h; subst h; unfold I64; dsimp only; omega
theorem zext_num : ∀ (f : Nat) {p : PS} (hw : WfP p) (hr : ∀ t ∈ p.T, t.wf) {x a : Int} {r : RS}, I64 a → zextF f p x a = some r → I64 r.2.1
  | 0, _, _, _, _, _, _, _, h => by cases h
  | f + 1, p, hw, hr, x, a, r, ha, h => by
    rw [zextF_succ] at h
    split at h
    · injection h with h; subst h; exact ha
    split at h
    · injection h with h; subst h; exact putN_i64 hw _
    split at h
    · injection h with h; subst h; exact ha
    split at h
    · exact zext_num f hw hr (atP_wf hr a).2.2.2.2.1 h
    · injection h with h; subst h; exact putN_i64 hw _
theorem zextV_num {p : PS} (hw : WfP p) (hr : ∀ t ∈ p.T, t.wf) (x : Int) {a : Int} (ha : I64 a) : I64 (zextV p x a).2.1 := by
  have h := zextV_some hw x a
  unfold zextO at h
  split at h
  · injection h with h; rw [← h]; exact i64_zero
  · exact zext_num _ hw hr ha h
theorem bind_num {r s : RS} {k : PS → Int → Option RS} (hk : r.2.2 = 0 → ∀ s, k r.1 r.2.1 = some s → I64 s.2.1) (hs : bindR r k = some s) : I64 s.2.1 := by
  unfold bindR at hs
  split at hs
  · rename_i h0; exact hk h0 s hs
  · injection hs with hs; subst hs; exact i64_zero
theorem op_num : ∀ (f : Nat) {p : PS} (hw : WfP p) (hr : ∀ t ∈ p.T, t.wf) {op x a b : Int} {r : RS}, opF f p op x a b = some r → I64 r.2.1
  | 0, _, _, _, _, _, _, _, _, h => by cases h
  | f + 1, p, hw, hr, op, x, a, b, r, h => by
    rw [opF_succ] at h
    split at h
    · injection h with h; subst h; exact i64_zero
    rename_i hab
    have hab : hasB p.T a = true ∧ hasB p.T b = true := by simpa using hab
    split at h
    · injection h with h; subst h; exact i64_zero
    have ha := has_i64 hw hab.1
    have hb := has_i64 hw hab.2
    have hi := both_i64 hw hr ha hb x
    have hw2 := both_wf hw hr ha hb x
    split at h
    · generalize bothP p x a b = z at h hw2 hi
      obtain ⟨p1, a1, b1, e1⟩ := z
      dsimp only at h hw2 hi
      have hc : ∀ {n : Int}, U64 n → Good p1 (putR p1 (constT n)) := fun hn => Good.put hw2.1 hw2.2 (constT_wf hn)
      unfold opL at h
      dsimp only at h
      split at h
      · injection h with h; subst h; exact putN_i64 hw2.1 _
      split at h
      · exact bind_num (fun _ s hs => op_num f (hc zero_u64).wf (hc zero_u64).rng hs) h
      split at h
      · exact zext_num f hw2.1 hw2.2 hi.2 h
      split at h
      · have hu : U64 (cutV x (IntKind.u64.wrap (-(atP p1.T b1).n))) := cutV_u64 (wrap_u64 _)
        exact bind_num (fun _ s hs => op_num f (hc hu).wf (hc hu).rng hs) h
      split at h
      · exact op_num f hw2.1 hw2.2 h
      split at h
      · have hu : U64 (cutV x (IntKind.u64.wrap ((atP p1.T (atP p1.T a1).b).n + (atP p1.T b1).n))) := cutV_u64 (wrap_u64 _)
        exact bind_num (fun _ s hs => op_num f (hc hu).wf (hc hu).rng hs) h
      split at h
      · exact zext_num f hw2.1 hw2.2 hi.1 h
      split at h
      · injection h with h; subst h; exact putN_i64 hw2.1 _
      split at h
      · injection h with h; subst h; exact putN_i64 hw2.1 _
      split at h
      · exact zext_num f hw2.1 hw2.2 hi.1 h
      · injection h with h; subst h; exact putN_i64 hw2.1 _
    · injection h with h; subst h; exact i64_zero
theorem opV_num {p : PS} (hw : WfP p) (hr : ∀ t ∈ p.T, t.wf) (op x a b : Int) : I64 (opV p op x a b).2.1 := by
  obtain ⟨f, h⟩ := opV_some hw hr op x a b
  exact op_num f hw hr h
theorem condV_num {p : PS} (hw : WfP p) (hr : ∀ t ∈ p.T, t.wf) (cc x : Int) {a b : Int} (ha : I64 a) (hb : I64 b) : I64 (condV p cc x a b).2.1 := cond_i64 2 hw hr ha hb (condV_some p cc x a b)
end Go.Proofs.Ytepagfkkjlbipaa
end
section
namespace Go.Proofs.Ytepagfkkjlbipaa
open Go.RowKit
set_option linter.unusedVariables false
set_option linter.unusedSimpArgs false
set_option maxRecDepth 100000
section
variable {base g b : Nat} {F G F1 G1 : Nat → Prop} {m m1 : SM} {ex : ExD} {w w1 : World}
theorem MA.frozen (h : MA base g b F G m ex w) (i : Nat) : w.frozen? ⟨b, i, none⟩ = false := by
  obtain ⟨es, q, h1, _⟩ := h.box
  exact h1.frozen i
theorem made_any (h : MA base g b F G m ex w) (n er : Int) (hn : I64 n) : Calls Try.prog 35 #[.pointer (some ⟨b, 0, none⟩), .int .i64 n, .int .i64 er] w (MRet base g b G ex w (⟨m.p, m.regs, m.evs, if m.err = 0 then er else m.err⟩, n)) := by
  have c17 := h.cerr
  have f17 := h.frozen 17
  have HM := hide h
  have HI := hide hn
  clear h hn
  obtain ⟨e2, he2⟩ : ∃ e2, (if m.err = 0 then er else m.err) = e2 := ⟨_, rfl⟩
  rw [he2]
  have HE := hide he2
  clear he2
  cases he : (m.err == 0)
  · have hE : e2 = m.err := by rw [← HE.out, if_neg (by simpa using he)]
    have HE2 := hide hE
    clear hE
    go_enter Try.func35, Try.ntmps35
    go_wp2
    go_ret
    exact ⟨rfl, HI.out, F, G, by rw [HE2.out]; exact MG.refl HM.out⟩
  · have hE : e2 = er := by rw [← HE.out, if_pos (by simpa using he)]
    have HE2 := hide hE
    clear hE
    go_enter Try.func35, Try.ntmps35
    go_wp2
    go_ret
    exact ⟨rfl, HI.out, F, G, by rw [HE2.out]; exact HM.out.setErr er⟩
theorem num_any (h : MA base g b F G m ex w) (n : Int) (hn : I64 n) : Calls Try.prog 43 #[.pointer (some ⟨b, 0, none⟩), .int .i64 n] w (MRet base g b G ex w (m.num n)) := by
  have c0 := h.cp
  have HM := hide h
  have hb0 := hide (Nat.le_trans (h.low b h.nb.2).1 (Nat.le_of_lt h.lt))
  clear h
  go_enter Try.func43, Try.ntmps43
  go_wp2_with fail
  refine (const_any (IntKind.u64.wrap n) (wrap_u64 _) _ HM.out.pool hb0.out).mono ?_
  rintro e w1 ⟨rfl, F1, hp1⟩
  have HM1 := hide (HM.out.pg hp1)
  clear hp1 c0
  go_wp2_with fail
  refine (made_any HM1.out.at_ _ _ (putN_i64 HM.out.pool.wf _)).mono ?_
  rintro e w2 ⟨rfl, _, F2, G2, hm2⟩
  have HM2 := hide (HM1.out.trans hm2)
  clear hm2
  go_wp2
  go_ret
  exact ⟨rfl, putN_i64 HM.out.pool.wf _, F2, G2, HM2.out⟩
end
end Go.Proofs.Ytepagfkkjlbipaa
end
section
namespace Go.Proofs.Ytepagfkkjlbipaa
open Go.RowKit
set_option linter.unusedVariables false
set_option linter.unusedSimpArgs false
set_option maxRecDepth 100000
section
variable {P : Program} {ops : Array Oper} {Q : Exit → Act → World → Prop} {md : Region.Mode} {T S : World → Prop} {late : List Nat} {fuel : Nat} {listed : Array Bool} {a : Act} {w : World}
theorem E_index (i : Nat) (d : Option Tmp) (t : TypeId) (x y : Operand) (vx vy v : Value) (ho : opAt ops i = some (d, .indexAddr t x y)) (hc : checkE md ops late listed i false = true) (hw : wantAt ops i a = some true)
    (hQ : ∀ c a w, Q (.panic c) (a.put d v) w → Q (.panic c) a w) (hx : a.eval x = vx) (hy : a.eval y = vy) (hr : ∀ w, (Instr.indexAt t vx vy).run P w = .ok v w)
    (hS : St T S late listed w) (h : wpAnyE P md ops Q T S late fuel (listed.setIfInBounds i true) (a.put d v) w) : wpAnyE P md ops Q T S late (fuel + 1) listed a w :=
  E_any false i d _ _ ho hc hw hQ (fun o e w _ => by
    unfold execOp
    simp only [e, hx, hy, Sem.run_bind, hr, Result.andThen_ok, Sem.run_pure]) hS h
theorem StepE.index (i : Nat) (d : Option Tmp) (t : TypeId) (x y : Operand) (vx vy v : Value) (ho : opAt ops i = some (d, .indexAddr t x y)) (hw : wantAt ops i a = some true) (hx : a.eval x = vx) (hy : a.eval y = vy) (hr : ∀ w, (Instr.indexAt t vx vy).run P w = .ok v w)
    (hS : St T S late (listed.setIfInBounds i true) w) (h : wpAnyE P md ops Q T S late fuel (listed.setIfInBounds i true) (a.put d v) w) : StepE P md ops Q T S late fuel listed a w i :=
  StepE.run i d _ _ w ho hw (fun o e => by
    unfold execOp
    simp only [e, hx, hy, Sem.run_bind, hr, Result.andThen_ok, Sem.run_pure]) hS h
end
theorem addr_add (b k i : Nat) : (⟨b, k, none⟩ : Addr).add i = ⟨b, k + i, none⟩ := by
  unfold Addr.add
  split
  · rename_i h; subst h; rfl
  · rfl
theorem run_at11 (b : Nat) {i : Int} {d : Nat} (hi : i = (d : Int)) (hd : d < 11) (w : World) : (Instr.indexAt 32 (.pointer (some ⟨b, 1, none⟩)) (.int .i8 i)).run Try.prog w = .ok (.pointer (some ⟨b, 1 + d, none⟩)) w := by
  subst hi
  go_simp
  intro h
  omega
/-- The machine's pool and registers, as they lie. -/
def MT (b g : Nat) (regs : List Int) (w : World) : Prop := w.cell? ⟨b, 0, none⟩ = some (.pointer (some ⟨g, 0, none⟩)) ∧ ∀ d, d < 11 → w.cell? ⟨b, 1 + d, none⟩ = some (.int .i64 (regs.getD d 0))
theorem MA.mt {base g b : Nat} {F G : Nat → Prop} {m : SM} {ex : ExD} {w : World} (h : MA base g b F G m ex w) : MT b g m.regs w := ⟨h.cp, fun d hd => h.creg hd⟩
/-- Events as the machine has them. -/
theorem MA.evs {base g b : Nat} {F G : Nat → Prop} {m : SM} {ex : ExD} {w : World} (h : MA base g b F G m ex w) : ∃ A c, w.cell? ⟨b, 12, none⟩ = some (.slice A m.evs.length c) ∧ EvsAt w (fun _ => False) (.slice A m.evs.length c) m.evs := by
  obtain ⟨es, q, hes, _, hown, hq, hqw, _⟩ := h.ces
  obtain ⟨A, c, rfl, hc, hR⟩ := ReadsF.of_own (F := fun _ => False) hown (fun _ _ q => q)
  exact ⟨A, c, hes, A, c, q, rfl, hc, hq, hR, fun p hp => ⟨(hqw p hp).1, (hqw p hp).2.chg (H := fun _ => False) (Chg.refl _ w) (fun _ q => q.elim) (fun _ q => q.elim)⟩⟩
/-! ### Brings -/
def brT (l : List EvD) (k : Nat) : Nat := bringsN (l.take k)
theorem brT_succ {l : List EvD} {k : Nat} {x : EvD} (hx : l[k]? = some x) : brT l (k + 1) = if bringB x then brT l k + 1 else brT l k := by
  unfold brT bringsN
  rw [List.take_add_one, hx, List.filter_append, List.length_append]
  simp only [Option.toList_some, List.filter_cons, List.filter_nil]
  cases bringB x <;> simp
theorem brT_le (l : List EvD) (k : Nat) : brT l k ≤ k := by
  unfold brT bringsN
  refine Nat.le_trans (List.length_filter_le _ _) ?_
  rw [List.length_take]
  omega
theorem sizA : (Try.prog.info? 51).map (·.size) = some 6 := by kernel_rfl
theorem EvD.one {x : EvD} {v : Value} (hv : v.oneCell' = true) : ∀ u ∈ evC (x, v), u.oneCell' = true := by
  intro u hu
  unfold evC at hu
  simp only [List.mem_cons, List.not_mem_nil, or_false] at hu
  rcases hu with rfl | rfl | rfl | rfl | rfl | rfl <;> first | rfl | exact hv
set_option maxHeartbeats 4000000 in
theorem brings_any (A : Option Addr) (n c : Nat) (l : List EvD) (w : World) (h : EvsAt w (fun _ => False) (.slice A n c) l) (hn : n ≤ 64) :
    Calls Try.prog 81 #[.slice A n c] w fun e w' => e = .returned (.int .i64 (bringsN l : Int)) ∧ Below w.heap.size w w' := by
  have hl : l.length = n := by
    obtain ⟨A', c', h1, _⟩ := h.form
    injection h1 with _ h1
    exact h1.symm
  have HL := hide hl
  have HE := hide h
  clear h hl
  go_enter Try.func81, Try.ntmps81
  go_wp2
  go_loopw [2, 7] (fun v i wr => ∃ k : Nat, k ≤ n ∧ i = .int .i64 k ∧ v = .int .i64 (brT l k : Int) ∧ Below w.heap.size w wr) (fun _ i _ => n - (intOf i).toNat)
  case atStart => exact ⟨0, by omega, rfl, rfl, Below.refl _ _⟩
  case round =>
    obtain ⟨k, hk, rfl, rfl, hb⟩ := hrel
    have HB := hide hb
    clear hb
    by_cases hlt : k < n
    · obtain ⟨ad, x, v, rfl, hab, hx, hxw, hnv, hcell⟩ := (HE.out.chg (G := fun _ => False) (Chg.of_below HB.out) (fun _ q => .inl q) (fun _ q => .inl q)).at_ hlt
      obtain ⟨A', c', rfl⟩ := hnv.form
      have HX := hide hx
      have HC := hide hcell
      have hsz := HB.out.size
      have hbt := brT_le l k
      obtain ⟨t, ht⟩ : ∃ t, brT l k = t := ⟨_, rfl⟩
      rw [ht] at hbt ⊢
      have HT := hide ht
      clear hx hcell hxw hnv ht
      go_upto_region 4 with (first
        | (refine wpList_load_at rfl 51 (.tmp 9) rfl (ad.add (k * 6)) (by rfl) (evC (x, .slice A' x.args.length c')) _ HC.out Try.underlying51 rfl sizA ?_)
        | (refine wpList_store_new rfl 51 (.tmp 4) (.tmp 10) rfl _ (evC (x, .slice A' x.args.length c')) (.agg (evC (x, .slice A' x.args.length c')).toArray) (by rfl) (by rfl) rfl sizA (by rfl) (EvD.one rfl) ?_
           intro w4 X4 L4 S4
           have HX4 := hide X4
           have HB4 := hide (HB.out.trans (L4.mono hsz))
           clear X4 L4 S4)
        | fail)
      have b0 : w4.cell? ⟨wr.heap.size, 0, none⟩ = some (.int .i8 x.kind) := HX4.out.cell 0
      obtain ⟨kd, hkd⟩ : ∃ v, x.kind = v := ⟨_, rfl⟩
      rw [hkd] at b0
      have HKD := hide hkd
      clear hkd
      cases h0 : (kd != 0)
      · have HS := hide (show brT l (k + 1) = t + 1 by rw [brT_succ HX.out, ← HT.out, if_pos (by unfold bringB; rw [HKD.out]; simp at h0; rw [h0]; rfl)])
        go_wp2
        go_roundw
        case measure => simp [intOf]; omega
        case rel => exact ⟨k + 1, by omega, by go_num, by rw [HS.out]; go_num, HB4.out⟩
      · cases h2 : (kd != 2)
        · have HS := hide (show brT l (k + 1) = t + 1 by rw [brT_succ HX.out, ← HT.out, if_pos (by unfold bringB; rw [HKD.out]; simp at h2; rw [h2]; rfl)])
          go_wp2
          go_roundw
          case measure => simp [intOf]; omega
          case rel => exact ⟨k + 1, by omega, by go_num, by rw [HS.out]; go_num, HB4.out⟩
        · have HS := hide (show brT l (k + 1) = t by rw [brT_succ HX.out, ← HT.out, if_neg (by unfold bringB; rw [HKD.out]; simp at h0 h2 ⊢; exact ⟨h0, h2⟩)])
          go_wp2
          go_roundw
          case measure => simp [intOf]; omega
          case rel => exact ⟨k + 1, by omega, by go_num, by rw [HS.out], HB4.out⟩
    · obtain rfl : k = n := by omega
      have HS := hide (show brT l k = bringsN l by unfold brT; rw [List.take_of_length_le (by rw [HL.out]; exact Nat.le_refl _)])
      go_wp2
      go_ret
      exact ⟨by rw [HS.out]; rfl, HB.out⟩
end Go.Proofs.Ytepagfkkjlbipaa
end
section
namespace Go.Proofs.Ytepagfkkjlbipaa
open Go.RowKit
set_option linter.unusedVariables false
set_option linter.unusedSimpArgs false
set_option maxRecDepth 100000
section
variable {base g b : Nat} {F G F1 G1 : Nat → Prop} {m : SM} {ex : ExD} {w w' : World} {es es' : Value} {q : List (EvD × Value)}
theorem MA.push (h : MA base g b F G m ex w) (hB : Blk w b 72 (mC g m.regs es ex m.err).toArray) (hown : w.ownsRow (b + 1) 51 6 es m.evs.length (q.flatMap evC)) (hq : q.map (·.1) = m.evs) (hqw : ∀ p ∈ q, p.1.wf ∧ NumsF w (Up G b) p.2 p.1.args) (hes : ∀ k, es.ownBlock = some k → G k ∧ ¬ F k ∧ k ≠ b)
    {x : EvD} {v : Value} (hx : x.wf) (hv : NumsF w (Up G b) v x.args) (hlt : m.evs.length < 64) (R : w'.ownsRow (b + 1) 51 6 es' (m.evs.length + 1) (q.flatMap evC ++ evC (x, v))) (Gr : w.grownBy w' es.ownBlock) (O : ∀ k, es'.ownBlock = some k → es.ownBlock = some k ∨ w.heap.size ≤ k) :
    MG base g b G w F (fun k => G k ∨ es'.ownBlock = some k) (m.event x) ex (w'.setCell ⟨b, 12, none⟩ es') := by
  have hcE : Chg (fun k => es.ownBlock = some k) w w' := Chg.of_grown Gr (fun k e => .inl e)
  have hcG : Chg G w w' := hcE.mono (fun k e => .inl (hes k e).1)
  have hbe : es.ownBlock ≠ some b := fun e => (hes b e).2.2 rfl
  have hB' := (hcE.blk hB hbe).set_ 12 es'
  rw [List.setIfInBounds_toArray, mC_setEs h.len] at hB'
  have hb12 : Chg (fun k => k = b) w' (w'.setCell ⟨b, 12, none⟩ es') := chg_setCell (b := b) rfl es' rfl
  have hbG : Chg G w' (w'.setCell ⟨b, 12, none⟩ es') := hb12.mono (fun k e => .inl (e ▸ h.nb.2))
  have hc : Chg G w (w'.setCell ⟨b, 12, none⟩ es') := hcG.trans hbG (fun k q => .inl q)
  have hne : ∀ k, es'.ownBlock = some k → k ≠ b := fun k e => by
    rintro rfl
    rcases O _ e with e2 | e2
    · exact hbe e2
    · have := h.lt; omega
  have hnG : ∀ k, es'.ownBlock = some k → G k ∨ w.heap.size ≤ k := fun k e => (O k e).elim (fun e2 => .inl (hes k e2).1) .inr
  have hUp : ∀ k, Up (fun k => G k ∨ es'.ownBlock = some k) b k → Up G b k ∨ w.heap.size ≤ k := fun k hk => hk.elim (fun hk => hk.elim (fun z => .inl (.inl z)) (fun z => (hnG k z).elim (fun z => .inl (.inl z)) .inr)) (fun z => .inl (.inr z))
  refine ⟨⟨?_, ⟨es', q ++ [(x, v)], hB', ?_, ?_, fun p hp => ?_, fun k e => ⟨.inr e, fun qf => ?_, hne k e⟩⟩, ⟨h.nb.1, .inl h.nb.2⟩, fun k qf => .inl (h.sub k qf), fun k hk => ?_, h.len, h.rng, ?_⟩, hc, fun k hk => hk.elim .inl (hnG k)⟩
  · have h1 : PoolAt w' base F g m.p := h.pool.chg hcE (fun k qf e => (hes k e).2.1 qf)
    exact h1.chg hb12 (fun k qf e => h.nb.1 (e ▸ qf))
  · have e1 : (m.event x).evs.length = m.evs.length + 1 := by unfold SM.event; simp
    have e2 : (q ++ [(x, v)]).flatMap evC = q.flatMap evC ++ evC (x, v) := by rw [List.flatMap_append]; simp
    rw [e1, e2]
    exact hb12.own R (fun k e => hne k e)
  · rw [List.map_append, hq]
    rfl
  · rcases List.mem_append.1 hp with hp | hp
    · exact ⟨(hqw p hp).1, (hqw p hp).2.chg hc (fun k qg => .inl (.inl qg)) hUp⟩
    · have hp : p = (x, v) := by simpa using hp
      subst hp
      exact ⟨hx, hv.chg hc (fun k qg => .inl (.inl qg)) hUp⟩
  · rcases O k e with e2 | e2
    · exact (hes k e2).2.1 qf
    · have := h.low k (h.sub k qf); omega
  · rcases hk with hk | hk
    · have := h.low k hk
      have := hc.size
      omega
    · have := own_ge R k hk
      have := h.low b h.nb.2
      simp
      omega
  · unfold SM.event
    simp
    omega
/-- The exit is written. -/
theorem MA.exit (h : MA base g b F G m ex w) (ex' : ExD) (hB : ∀ es, Blk w b 72 (mC g m.regs es ex m.err).toArray → Blk w' b 72 (overC (mC g m.regs es ex m.err) 13 [.int .i8 ex'.kind, .int .i64 ex'.v, .int .i64 ex'.tgt, .int .i64 ex'.els]).toArray) (Gr : w.grownBy w' (some b)) :
    MG base g b G w F G m ex' w' := by
  obtain ⟨es, q, h1, h2, h3, h4, h5⟩ := h.box
  have hcb : Chg (fun k => k = b) w w' := Chg.of_grown Gr (fun k e => .inl (by injection e with e; exact e.symm))
  have hc : Chg G w w' := hcb.mono (fun k e => .inl (e ▸ h.nb.2))
  have hB' := hB es h1
  rw [mC_over h.len] at hB'
  exact ⟨⟨h.pool.chg hcb (fun k qf e => h.nb.1 (e ▸ qf)), ⟨es, q, hB', hcb.own h2 (fun k e => (h5 k e).2.2), h3, fun p hp => ⟨(h4 p hp).1, (h4 p hp).2.chg hc (fun c q => .inl (.inl q)) (fun c q => .inl q)⟩, h5⟩, h.nb, h.sub, fun k hk => ⟨(h.low k hk).1, Nat.lt_of_lt_of_le (h.low k hk).2 hc.size⟩, h.len, h.rng, h.few⟩, hc, fun k q => .inl q⟩
end
/-- A step that writes at an address. -/
theorem StepE.store_at {P : Program} {ops : Array Oper} {Q : Exit → Act → World → Prop} {md : Region.Mode} {T S : World → Prop} {late : List Nat} {fuel : Nat} {listed : Array Bool} {a : Act} {w : World} (i : Nat) (ty : TypeId) (x y : Operand) (ad : Addr) (v : Value) (w1 : World) (ho : opAt ops i = some (none, .store ty x y)) (hw : wantAt ops i a = some true)
    (hx : a.eval x = .pointer (some ad)) (hy : a.eval y = v) (hr : (storeVar ty ad v).run P w = .ok () w1) (hS : St T S late (listed.setIfInBounds i true) w1) (h : wpAnyE P md ops Q T S late fuel (listed.setIfInBounds i true) (a.put none undef) w1) : StepE P md ops Q T S late fuel listed a w i :=
  StepE.skip i _ w1 ho hw (fun o e => by
    unfold execOp
    simp only [e, hx, hy, Instr.storeAt, Instr.sureAddr, Sem.run_bind, Sem.run_pure, Result.andThen_ok, hr]) hS h
end Go.Proofs.Ytepagfkkjlbipaa
end
