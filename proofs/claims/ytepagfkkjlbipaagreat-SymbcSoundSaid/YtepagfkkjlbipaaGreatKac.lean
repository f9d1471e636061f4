/-
  Parts of the proof of SymbcSound. Conditions: those written in each statement.
-/
import Derived.Test.YtepagfkkjlbipaaGreatKab
import Derived.Laws.CopyRow
import Derived.Laws.Slices
import Derived.BigFrame
set_option linter.unusedVariables false
set_option linter.unusedSimpArgs false
set_option maxHeartbeats 64000000
set_option maxRecDepth 100000
namespace Go.Proofs.YtepagfkkjlbipaaGreat
section
open Go.RowKit
def overC (cs : List Value) (k : Nat) (vs : List Value) : List Value := cs.take k ++ vs ++ cs.drop (k + vs.length)
theorem grown_setRow (w : World) (g : Nat) (cs : Array Value) : w.grownBy (w.setRow g cs) (some g) :=
 ⟨rfl, rfl, rfl, by simp, fun i _ hne => setRow_other w g i cs (fun e => hne (by rw [e]))⟩
section
variable {P : Program}
theorem run_storeVar_at (w : World) (g off : Nat) (tb ty : TypeId) (cs vs : List Value) (v : Value) (hB : Blk w g tb cs.toArray) (hv : v.cells = vs.toArray) (hi : (P.info? ty).map (·.size) = some vs.length)
  (hl : off + vs.length ≤ cs.length) (h1 : ∀ u ∈ vs, u.oneCell' = true) : (storeVar ty ⟨g, off, none⟩ v).run P w = .ok () (w.setRow g (overC cs off vs).toArray) := by
 have hst := run_storeCells_at (P := P) g off tb vs 0 cs.toArray w hB (by simpa using hl) h1
 cases hq : P.info? ty with
 | none => simp [hq] at hi
 | some i =>
  have hs : i.size = vs.length := by simpa [hq] using hi
  simp [storeVar, Sem.run_bind, sizeOf, typeInfo, hq, hs, hv, hst, overC]
theorem wpList_store_at {ops : Array Oper} {rest : List Oper} {o : Oper} {a : Act} {w : World} {Q : Exit → Act → World → Prop} (hgd : o.guard = none) (ty : TypeId) (x y : Operand) (ho : o.op = .store ty x y)
  (g off : Nat) (tb : TypeId) (cs vs : List Value) (v : Value) (hB : Blk w g tb cs.toArray) (hx : a.eval x = .pointer (some ⟨g, off, none⟩)) (hy : a.eval y = v) (hv : v.cells = vs.toArray) (hi : (P.info? ty).map (·.size) = some vs.length)
  (hl : off + vs.length ≤ cs.length) (h1 : ∀ u ∈ vs, u.oneCell' = true)
  (h : ∀ w', Blk w' g tb (overC cs off vs).toArray → w.grownBy w' (some g) → w'.heap.size = w.heap.size → wpList P ops Q rest (a.put o.dst undef) w') : wpList P ops Q (o :: rest) a w :=
 wpList_plain hgd fun _ hK => by
  unfold Oper.wp execOp
  simp only [ho, hx, hy, Instr.storeAt, Instr.sureAddr, Sem.run_bind, Sem.run_pure, Result.andThen_ok, run_storeVar_at w g off tb ty cs vs v hB hv hi hl h1]
  exact hK _ _ (h _ (setRow_heap w g _ _ tb (0, 0) hB) (grown_setRow w g _) (by simp))
theorem wpList_load_atw {ops : Array Oper} {rest : List Oper} {o : Oper} {a : Act} {w : World} {Q : Exit → Act → World → Prop} (hgd : Region.wanted o (yielded ops a.tmps) = true) (ty : TypeId) (x : Operand) (ho : o.op = .load ty x)
  (ad : Addr) (hx : a.eval x = .pointer (some ad)) (cs : List Value) (d : TypeDesc) (hc : ∀ j u, cs[j]? = some u → w.cell? (ad.add j) = some u)
  (hu : P.underlying ty = some d) (hd : aggD d = true) (hi : (P.info? ty).map (·.size) = some cs.length)
  (h : wpList P ops Q rest (a.put o.dst (.agg cs.toArray)) w) : wpList P ops Q (o :: rest) a w :=
 BigFrame.wpList_want hgd fun _ hK => by
  unfold Oper.wp execOp
  simp only [ho, hx, Instr.loadAt, Instr.sureAddr, Sem.run_bind, Sem.run_pure, Result.andThen_ok, run_loadVar_at w ad ty cs d hc hu hd hi]
  exact hK _ _ h
theorem elem_of {t e : TypeId} (ht : P.underlying t = some (.slice e)) : P.elem t = e := by
 simp [Program.elem, ht]
end
end
section
open Go.RowKit
def eqV : Value → Value → Bool
 | .int _ a, .int _ b => a == b
 | .bool a, .bool b => a == b
 | _, _ => false
def eqL : List Value → List Value → Bool
 | [], [] => true
 | x :: xs, y :: ys => eqV x y && eqL xs ys
 | _, _ => false
theorem eqL_append : ∀ (a b c d : List Value), a.length = c.length → eqL (a ++ b) (c ++ d) = (eqL a c && eqL b d)
 | [], b, [], d, _ => by simp [eqL]
 | [], b, y :: c, d, h => by simp at h
 | x :: a, b, [], d, h => by simp at h
 | x :: a, b, y :: c, d, h => by simp only [List.cons_append, eqL]; rw [eqL_append a b c d (by simpa using h), Bool.and_assoc]
theorem AllK.tail {k : Option IntKind} {ks : List (Option IntKind)} {x : Value} {xs : List Value} (h : AllK (k :: ks) (x :: xs)) : AllK ks xs :=
 ⟨by have := h.1; simpa using this, fun i k' v hk hv => h.2 (i + 1) k' v (by simpa using hk) (by simpa using hv)⟩
theorem eqL_iff : ∀ (ks : List (Option IntKind)) (xs ys : List Value), AllK ks xs → AllK ks ys → (eqL xs ys = true ↔ xs = ys)
 | [], xs, ys, hx, hy => by
  have h1 : xs = [] := List.eq_nil_of_length_eq_zero hx.1
  have h2 : ys = [] := List.eq_nil_of_length_eq_zero hy.1
  subst h1 h2
  simp [eqL]
 | k :: ks, [], ys, hx, hy => by have := hx.1; simp at this
 | k :: ks, x :: xs, [], hx, hy => by have := hy.1; simp at this
 | k :: ks, x :: xs, y :: ys, hx, hy => by
  have ih := eqL_iff ks xs ys hx.tail hy.tail
  have a1 := hx.2 0 k x rfl rfl
  have a2 := hy.2 0 k y rfl rfl
  simp only [eqL, Bool.and_eq_true, ih, List.cons.injEq]
  refine and_congr_left fun _ => ?_
  cases k with
  | none => obtain ⟨b, rfl⟩ := a1; obtain ⟨c, rfl⟩ := a2; simp [eqV]
  | some k => obtain ⟨n, rfl, _⟩ := a1; obtain ⟨m, rfl, _⟩ := a2; simp [eqV]
def eqOk (P : Program) : Nat → TypeId → Bool
 | 0, _ => false
 | m + 1, t => (P.info? t).isSome &&
  match P.underlying t with
  | some .bool => true
  | some (.int _) => true
  | some (.struct fs) => !P.stoodInHeld t && fs.toList.all fun f => f.name != "_" && eqOk P m f.type
  | some (.array _ e) => eqOk P m e
  | _ => false
def aggT (P : Program) (t : TypeId) : Bool := match P.underlying t with
 | some d => aggD d
 | none => false
def valT (P : Program) (t : TypeId) (cs : List Value) : Value := if aggT P t then .agg cs.toArray else cs.headD undef
section
variable {P : Program}
theorem part_flat {m : Nat} {t : TypeId} {ks : List (Option IntKind)} (hk : flatK P m t = some ks) (hi : (P.info? t).isSome = true) (xs : List Value) (off : Nat) (h : AllK ks ((xs.drop off).take ks.length)) (w : World) :
  (part t xs.toArray off).run P w = .ok (valT P t ((xs.drop off).take ks.length)) w := by
 have hlen := flatK_len hk
 obtain ⟨i0, hi0⟩ := Option.isSome_iff_exists.1 hi
 have hsz : i0.size = ks.length := by rw [← hlen]; simp [Program.cellsOf, hi0]
 cases m with
 | zero => simp [flatK] at hk
 | succ m =>
  unfold flatK at hk
  obtain ⟨l, hl, h2⟩ := Option.bind_eq_some_iff.1 hk
  have hlk : l = ks := by
   split at h2
   ·injection h2
   ·cases h2
  subst hlk
  have ext : ∀ n, (xs.toArray.extract off (off + n)) = ((xs.drop off).take n).toArray := fun n => by
   refine Array.ext_getElem? fun j => ?_
   rw [Array.getElem?_extract]
   simp only [List.size_toArray, List.getElem?_toArray, List.getElem?_take, List.getElem?_drop]
   by_cases hj : j < n
   ·by_cases hj2 : off + j < xs.length
    ·rw [if_pos (by omega), if_pos hj]
    ·rw [if_neg (by omega), if_pos hj, List.getElem?_eq_none (by omega)]
   ·rw [if_neg (by omega), if_neg hj]
  have one : ∀ k, l = [k] → ∃ v, (xs.drop off).take l.length = [v] ∧ xs.toArray[off]? = some v := fun k hk1 => by
   subst hk1
   have h3 := h.1
   match hq : (xs.drop off).take [k].length, h3 with
   | [v], _ =>
    refine ⟨v, rfl, ?_⟩
    have : ((xs.drop off).take 1)[0]? = some v := by rw [show (1 : Nat) = [k].length from rfl, hq]; rfl
    simpa using this
  split at hl
  ·rename_i hu
   injection hl with hl
   obtain ⟨v, hv, hc⟩ := one none hl.symm
   simp [part, Sem.run_bind, isAgg, run_underlying hu, hc, hv, valT, aggT, hu, aggD]
  ·rename_i k0 hu
   injection hl with hl
   obtain ⟨v, hv, hc⟩ := one (some k0) hl.symm
   simp [part, Sem.run_bind, isAgg, run_underlying hu, hc, hv, valT, aggT, hu, aggD]
  ·rename_i fs hu
   simp [part, Sem.run_bind, isAgg, run_underlying hu, valT, aggT, hu, aggD, sizeOf, typeInfo, hi0, hsz, ext]
  ·rename_i n e hu
   simp [part, Sem.run_bind, isAgg, run_underlying hu, valT, aggT, hu, aggD, sizeOf, typeInfo, hi0, hsz, ext]
  ·cases hl
theorem loop_fields (body : Field → Option Bool × Unit → Sem (ForInStep (Option Bool × Unit))) (q : Field → Bool) (w : World) : ∀ l : List Field,
  (∀ f ∈ l, (body f (none, ())).run P w = .ok (if q f then .yield (none, ()) else .done (some false, ())) w) →
  (forIn l (none, ()) body).run P w = .ok (if l.all q then (none, ()) else (some false, ())) w
 | [], _ => by simp
 | f :: r, h => by
  rw [List.forIn_cons, Sem.run_bind, h f (by simp)]
  cases hq : q f with
  | true => simp [hq, loop_fields body q w r (fun g hg => h g (by simp [hg]))]
  | false => simp [hq]
theorem loop_nats (body : Nat → Option Bool × Unit → Sem (ForInStep (Option Bool × Unit))) (q : Nat → Bool) (w : World) : ∀ l : List Nat,
  (∀ f ∈ l, (body f (none, ())).run P w = .ok (if q f then .yield (none, ()) else .done (some false, ())) w) →
  (forIn l (none, ()) body).run P w = .ok (if l.all q then (none, ()) else (some false, ())) w
 | [], _ => by simp
 | f :: r, h => by
  rw [List.forIn_cons, Sem.run_bind, h f (by simp)]
  cases hq : q f with
  | true => simp [hq, loop_nats body q w r (fun g hg => h g (by simp [hg]))]
  | false => simp [hq]
theorem AllK.split {a b : List (Option IntKind)} {zs : List Value} (h : AllK (a ++ b) zs) : AllK a (zs.take a.length) ∧ AllK b (zs.drop a.length) := by
 have hl := h.1
 rw [List.length_append] at hl
 refine ⟨⟨by rw [List.length_take]; omega, fun i k v hk hv => ?_⟩, ⟨by rw [List.length_drop]; omega, fun i k v hk hv => ?_⟩⟩
 ·have hi : i < a.length := (List.getElem?_eq_some_iff.1 hk).1
  rw [List.getElem?_take, if_pos hi] at hv
  exact h.2 i k v (by rw [List.getElem?_append_left hi]; exact hk) hv
 ·rw [List.getElem?_drop] at hv
  exact h.2 (a.length + i) k v (by rw [List.getElem?_append_right (by omega), Nat.add_sub_cancel_left]; exact hk) hv
theorem flatFs_sub {g : TypeId → Option (List (Option IntKind))} {zs : List Value} : ∀ (fs : List Field) (off : Nat) (ks : List (Option IntKind)), flatFs g fs off = some ks → AllK ks ((zs.drop off).take ks.length) →
  ∀ f ∈ fs, ∀ a, g f.type = some a → AllK a ((zs.drop f.offset).take a.length)
 | [], off, ks, _, _ => by simp
 | f :: r, off, ks, h, hz => by
  unfold flatFs at h
  split at h
  ·rename_i ho
   obtain ⟨a, ha, h2⟩ := Option.bind_eq_some_iff.1 h
   obtain ⟨b, hb, rfl⟩ := Option.map_eq_some_iff.1 h2
   obtain ⟨s1, s2⟩ := hz.split
   rw [List.length_append, List.take_take, Nat.min_eq_left (by omega)] at s1
   rw [List.length_append, List.drop_take, List.drop_drop, Nat.add_sub_cancel_left] at s2
   intro f' hf' a' ha'
   rcases List.mem_cons.1 hf' with rfl | hf'
   ·rw [ha] at ha'; cases ha'; rw [ho]; exact s1
   ·exact flatFs_sub r _ b hb s2 f' hf' a' ha'
  ·cases h
theorem rep_sub {l : List (Option IntKind)} {zs : List Value} : ∀ (n off : Nat), AllK (List.replicate n l).flatten ((zs.drop off).take (n * l.length)) → ∀ i, i < n → AllK l ((zs.drop (off + i * l.length)).take l.length)
 | 0, _, _ => by intro i hi; omega
 | n + 1, off, h => by
  rw [List.replicate_succ, List.flatten_cons] at h
  obtain ⟨s1, s2⟩ := h.split
  rw [List.take_take, Nat.min_eq_left (by rw [Nat.succ_mul]; omega)] at s1
  rw [List.drop_take, List.drop_drop, show (n + 1) * l.length - l.length = n * l.length by rw [Nat.succ_mul]; omega] at s2
  intro i hi
  cases i with
  | zero => simpa using s1
  | succ i =>
   have := rep_sub n _ s2 i (by omega)
   rwa [show off + (i + 1) * l.length = off + l.length + i * l.length by rw [Nat.succ_mul]; omega]
theorem flatFs_eq {g : TypeId → Option (List (Option IntKind))} {xs ys : List Value} (hl : xs.length = ys.length) : ∀ (fs : List Field) (off : Nat) (ks : List (Option IntKind)), flatFs g fs off = some ks →
  eqL ((xs.drop off).take ks.length) ((ys.drop off).take ks.length) = fs.all fun f => eqL ((xs.drop f.offset).take ((g f.type).getD []).length) ((ys.drop f.offset).take ((g f.type).getD []).length)
 | [], off, ks, h => by
  simp [flatFs] at h
  subst h
  simp [eqL]
 | f :: r, off, ks, h => by
  unfold flatFs at h
  split at h
  ·rename_i ho
   obtain ⟨a, ha, h2⟩ := Option.bind_eq_some_iff.1 h
   obtain ⟨b, hb, rfl⟩ := Option.map_eq_some_iff.1 h2
   rw [List.length_append, List.take_add, List.take_add, List.drop_drop, List.drop_drop, eqL_append _ _ _ _ (by simp [hl]), List.all_cons, ha, ho, flatFs_eq hl r _ b hb]
   rfl
  ·cases h
theorem rep_eq {xs ys : List Value} (hl : xs.length = ys.length) (c : Nat) : ∀ (n off : Nat),
  eqL ((xs.drop off).take (n * c)) ((ys.drop off).take (n * c)) = (List.range' 0 n).all fun i => eqL ((xs.drop (off + i * c)).take c) ((ys.drop (off + i * c)).take c)
 | 0, off => by simp [eqL]
 | n + 1, off => by
  rw [show (n + 1) * c = n * c + c by rw [Nat.succ_mul], List.take_add, List.take_add, List.drop_drop, List.drop_drop, eqL_append _ _ _ _ (by simp [hl]), rep_eq hl c n off, List.range'_concat, List.all_append]
  simp
theorem eqOk_info {m : Nat} {t : TypeId} (h : eqOk P m t = true) : (P.info? t).isSome = true := by
 cases m with
 | zero => simp [eqOk] at h
 | succ m => unfold eqOk at h; simp only [Bool.and_eq_true] at h; exact h.1
theorem eq_flat (w : World) : ∀ (m : Nat) (t : TypeId) (ks : List (Option IntKind)) (xs ys : List Value) (d : Nat), m ≤ d → flatK P m t = some ks → eqOk P m t = true → AllK ks xs → AllK ks ys →
  (Op.equalIn d t (valT P t xs) (valT P t ys)).run P w = .ok (eqL xs ys) w := by
 intro m
 induction m with
 | zero => intro t ks xs ys d _ h; simp [flatK] at h
 | succ m ih =>
  intro t ks xs ys d hd hk he hx hy
  obtain ⟨d, rfl⟩ : ∃ d', d = d' + 1 := ⟨d - 1, by omega⟩
  have hd' : m ≤ d := by omega
  have hlen := flatK_len hk
  obtain ⟨i0, hi0⟩ := Option.isSome_iff_exists.1 (eqOk_info he)
  unfold flatK at hk
  obtain ⟨l, hl, h2⟩ := Option.bind_eq_some_iff.1 hk
  have hlk : l = ks := by
   split at h2
   ·injection h2
   ·cases h2
  subst hlk
  unfold eqOk at he
  simp only [Bool.and_eq_true] at he
  have he2 := he.2
  have hxy : xs.length = ys.length := by rw [hx.1, hy.1]
  split at hl
  ·rename_i hu
   injection hl with hl
   subst hl
   match xs, hx.1, ys, hy.1 with
   | [x], _, [y], _ =>
    obtain ⟨b, rfl⟩ := hx.2 0 none x rfl rfl
    obtain ⟨c, rfl⟩ := hy.2 0 none y rfl rfl
    simp [Op.equalIn, run_underlying hu, valT, aggT, hu, aggD, eqL, eqV]
  ·rename_i k0 hu
   injection hl with hl
   subst hl
   match xs, hx.1, ys, hy.1 with
   | [x], _, [y], _ =>
    obtain ⟨b, rfl, _⟩ := hx.2 0 (some k0) x rfl rfl
    obtain ⟨c, rfl, _⟩ := hy.2 0 (some k0) y rfl rfl
    simp [Op.equalIn, run_underlying hu, valT, aggT, hu, aggD, eqL, eqV]
  ·rename_i fs hu
   rw [hu] at he2
   simp only [Bool.and_eq_true, Bool.not_eq_true'] at he2
   have hv : ∀ zs : List Value, valT P t zs = .agg zs.toArray := fun zs => by simp [valT, aggT, hu, aggD]
   have hall := List.all_eq_true.1 he2.2
   have hfl : ∀ f ∈ fs.toList, ∃ a, flatK P m f.type = some a := fun f hf => by
    clear hx hy hv ih hall he2 he hxy hi0 hlen hk h2
    generalize fs.toList = L at hl hf
    generalize 0 = off at hl
    revert off l
    induction L with
    | nil => simp at hf
    | cons g r ihr =>
     intro l off hl
     unfold flatFs at hl
     split at hl
     ·obtain ⟨a, ha, h3⟩ := Option.bind_eq_some_iff.1 hl
      obtain ⟨b, hb, _⟩ := Option.map_eq_some_iff.1 h3
      rcases List.mem_cons.1 hf with rfl | hf
      ·exact ⟨a, ha⟩
      ·exact ihr hf b _ hb
     ·cases hl
   have hsl : ∀ zs : List Value, AllK l zs → ∀ f ∈ fs.toList, ∀ a, flatK P m f.type = some a → AllK a ((zs.drop f.offset).take a.length) := fun zs hz f hf a ha => by
    exact flatFs_sub fs.toList 0 l hl (by rw [List.drop_zero, List.take_of_length_le (by rw [hz.1]; exact Nat.le_refl _)]; exact hz) f hf a ha
   rw [hv, hv]
   simp only [Op.equalIn, Sem.run_bind, run_underlying hu, Result.andThen_ok, run_program, he2.1]
   simp only [Bool.false_eq_true, if_false, Sem.run_bind, Sem.run_pure, Result.andThen_ok, ← Array.forIn_toList]
   rw [loop_fields _ (fun f => eqL ((xs.drop f.offset).take ((flatK P m f.type).getD []).length) ((ys.drop f.offset).take ((flatK P m f.type).getD []).length)) w fs.toList (fun f hf => by
    obtain ⟨a, ha⟩ := hfl f hf
    have h3 := hall f hf
    simp only [Bool.and_eq_true, bne_iff_ne, ne_eq] at h3
    have hi := eqOk_info h3.2
    have p1 := part_flat ha hi xs f.offset (hsl xs hx f hf a ha) w
    have p2 := part_flat ha hi ys f.offset (hsl ys hy f hf a ha) w
    have p3 := ih f.type a _ _ d hd' ha h3.2 (hsl xs hx f hf a ha) (hsl ys hy f hf a ha)
    rw [ha]
    simp only [h3.1, ne_eq, not_false_eq_true, if_true, if_false, Sem.run_bind, p1, p2, p3, Result.andThen_ok, Option.getD_some]
    rcases Bool.eq_false_or_eq_true (eqL (List.take a.length (List.drop f.offset xs)) (List.take a.length (List.drop f.offset ys))) with hb | hb <;> simp [hb])]
   have hq := flatFs_eq hxy fs.toList 0 l hl
   rw [List.drop_zero, List.drop_zero, List.take_of_length_le (by rw [hx.1]; exact Nat.le_refl _), List.take_of_length_le (by rw [hy.1]; exact Nat.le_refl _)] at hq
   rw [hq]
   generalize (fs.toList.all fun f => eqL (List.take ((flatK P m f.type).getD []).length (List.drop f.offset xs)) (List.take ((flatK P m f.type).getD []).length (List.drop f.offset ys))) = b
   cases b <;> simp
  ·rename_i n e hu
   rw [hu] at he2
   have hv : ∀ zs : List Value, valT P t zs = .agg zs.toArray := fun zs => by simp [valT, aggT, hu, aggD]
   obtain ⟨a, ha, rfl⟩ := Option.map_eq_some_iff.1 hl
   have hi := eqOk_info he2
   obtain ⟨ie, hie⟩ := Option.isSome_iff_exists.1 hi
   have hsz : ie.size = a.length := by rw [← flatK_len ha]; simp [Program.cellsOf, hie]
   have hn : (List.replicate n a).flatten.length = n * a.length := by simp
   have hsl : ∀ zs : List Value, AllK (List.replicate n a).flatten zs → ∀ i, i < n → AllK a ((zs.drop (i * a.length)).take a.length) := fun zs hz i hi' => by
    have := rep_sub (l := a) (zs := zs) n 0 (by rw [List.drop_zero, List.take_of_length_le (by rw [hz.1, hn]; exact Nat.le_refl _)]; exact hz) i hi'
    rwa [Nat.zero_add] at this
   rw [hv, hv]
   simp only [Op.equalIn, Sem.run_bind, run_underlying hu, Result.andThen_ok, sizeOf, typeInfo, run_program, hie, Sem.run_pure, hsz]
   simp only [Std.Legacy.Range.forIn_eq_forIn_range']
   rw [loop_nats _ (fun i => eqL ((xs.drop (0 + i * a.length)).take a.length) ((ys.drop (0 + i * a.length)).take a.length)) w _ (fun i hi' => by
    have hin : i < n := by
     have := List.mem_range'_1.1 hi'
     simp [Std.Legacy.Range.size] at this
     omega
    have p1 := part_flat ha hi xs (i * a.length) (hsl xs hx i hin) w
    have p2 := part_flat ha hi ys (i * a.length) (hsl ys hy i hin) w
    have p3 := ih e a _ _ d hd' ha he2 (hsl xs hx i hin) (hsl ys hy i hin)
    rw [Nat.zero_add]
    simp only [Sem.run_bind, p1, p2, p3, Result.andThen_ok]
    rcases Bool.eq_false_or_eq_true (eqL (List.take a.length (List.drop (i * a.length) xs)) (List.take a.length (List.drop (i * a.length) ys))) with hb | hb <;> simp [hb])]
   have hq := rep_eq hxy a.length n 0
   rw [List.drop_zero, List.drop_zero, List.take_of_length_le (by rw [hx.1, hn]; exact Nat.le_refl _), List.take_of_length_le (by rw [hy.1, hn]; exact Nat.le_refl _)] at hq
   rw [hq, show [:n].size = n by simp [Std.Legacy.Range.size]]
   generalize ((List.range' 0 n).all fun i => eqL (List.take a.length (List.drop (0 + i * a.length) xs)) (List.take a.length (List.drop (0 + i * a.length) ys))) = b
   cases b <;> simp
  ·cases hl
theorem run_eql_flat {m : Nat} {t : TypeId} {ks : List (Option IntKind)} {xs ys : List Value} (hm : m ≤ 10000) (hk : flatK P m t = some ks) (he : eqOk P m t = true) (ha : aggT P t = true) (hx : AllK ks xs) (hy : AllK ks ys) (w : World) :
  (binOp .eql t (.agg xs.toArray) (.agg ys.toArray)).run P w = .ok (.bool (eqL xs ys)) w := by
 have h := eq_flat w m t ks xs ys 10000 hm hk he hx hy
 have hv : ∀ zs : List Value, valT P t zs = .agg zs.toArray := fun zs => by simp [valT, ha]
 rw [hv, hv] at h
 simp [binOp, Op.equal, Op.maxDepth, h]
theorem run_neq_flat {m : Nat} {t : TypeId} {ks : List (Option IntKind)} {xs ys : List Value} (hm : m ≤ 10000) (hk : flatK P m t = some ks) (he : eqOk P m t = true) (ha : aggT P t = true) (hx : AllK ks xs) (hy : AllK ks ys) (w : World) :
  (binOp .neq t (.agg xs.toArray) (.agg ys.toArray)).run P w = .ok (.bool (!eqL xs ys)) w := by
 have h := eq_flat w m t ks xs ys 10000 hm hk he hx hy
 have hv : ∀ zs : List Value, valT P t zs = .agg zs.toArray := fun zs => by simp [valT, ha]
 rw [hv, hv] at h
 simp [binOp, Op.equal, Op.maxDepth, h]
end
end
section
open Go.RowKit
def I8 (x : Int) : Prop := -128 ≤ x ∧ x < 128
def I64 (x : Int) : Prop := -9223372036854775808 ≤ x ∧ x < 9223372036854775808
structure ID where
 kind : Int
 op : Int
 width : Int
 size : Int
 byReg : Bool
 dst : Int
 src : Int
 off : Int
 imm : Int
def ID.cells (x : ID) : List Value := [.int .i8 x.kind, .int .i8 x.op, .int .i8 x.width, .int .i8 x.size, .bool x.byReg, .int .i8 x.dst, .int .i8 x.src, .int .i64 x.off, .int .i64 x.imm]
def ID.wf (x : ID) : Prop := I8 x.kind ∧ I8 x.op ∧ I8 x.width ∧ I8 x.size ∧ I8 x.dst ∧ I8 x.src ∧ I64 x.off ∧ I64 x.imm
theorem ID.cells_len (x : ID) : x.cells.length = 9 := rfl
theorem ID.one (x : ID) : ∀ u ∈ x.cells, u.oneCell' = true := by
 intro v hv
 unfold ID.cells at hv
 simp only [List.mem_cons, List.not_mem_nil, or_false] at hv
 rcases hv with rfl | rfl | rfl | rfl | rfl | rfl | rfl | rfl | rfl <;> rfl
theorem ID.cells_inj {x y : ID} (h : x.cells = y.cells) : x = y := by
 unfold ID.cells at h
 simp only [List.cons.injEq, Value.int.injEq, Value.bool.injEq, true_and, and_true] at h
 obtain ⟨h0, h1, h2, h3, h4, h5, h6, h7, h8⟩ := h
 cases x
 cases y
 simp_all
def instrK : List (Option IntKind) := [some .i8, some .i8, some .i8, some .i8, none, some .i8, some .i8, some .i64, some .i64]
theorem wf_i8 {x : Int} (h : I8 x) : (Lit.int .i8 x).wf = true := by unfold I8 at h; exact WalkArith.wf_i8 (by omega)
theorem wf_i64 {x : Int} (h : I64 x) : (Lit.int .i64 x).wf = true := by unfold I64 at h; exact WalkArith.wf_i64 (by omega)
theorem ID.all {x : ID} (h : x.wf) : AllK instrK x.cells := by
 obtain ⟨h0, h1, h2, h3, h5, h6, h7, h8⟩ := h
 refine ⟨rfl, fun i k v hk hv => ?_⟩
 match i with
 | 0 => simp [instrK, ID.cells] at hk hv; subst hk hv; exact ⟨_, rfl, wf_i8 h0⟩
 | 1 => simp [instrK, ID.cells] at hk hv; subst hk hv; exact ⟨_, rfl, wf_i8 h1⟩
 | 2 => simp [instrK, ID.cells] at hk hv; subst hk hv; exact ⟨_, rfl, wf_i8 h2⟩
 | 3 => simp [instrK, ID.cells] at hk hv; subst hk hv; exact ⟨_, rfl, wf_i8 h3⟩
 | 4 => simp [instrK, ID.cells] at hk hv; subst hk hv; exact ⟨_, rfl⟩
 | 5 => simp [instrK, ID.cells] at hk hv; subst hk hv; exact ⟨_, rfl, wf_i8 h5⟩
 | 6 => simp [instrK, ID.cells] at hk hv; subst hk hv; exact ⟨_, rfl, wf_i8 h6⟩
 | 7 => simp [instrK, ID.cells] at hk hv; subst hk hv; exact ⟨_, rfl, wf_i64 h7⟩
 | 8 => simp [instrK, ID.cells] at hk hv; subst hk hv; exact ⟨_, rfl, wf_i64 h8⟩
 | i + 9 => simp [instrK] at hk
theorem row_id {r : List Value} (h : AllK instrK r) : ∃ x : ID, x.wf ∧ r = x.cells := by
 obtain ⟨hl, hk⟩ := h
 match r, hl with
 | [c0, c1, c2, c3, c4, c5, c6, c7, c8], _ =>
  obtain ⟨n0, rfl, w0⟩ := hk 0 _ _ rfl rfl
  obtain ⟨n1, rfl, w1⟩ := hk 1 _ _ rfl rfl
  obtain ⟨n2, rfl, w2⟩ := hk 2 _ _ rfl rfl
  obtain ⟨n3, rfl, w3⟩ := hk 3 _ _ rfl rfl
  obtain ⟨n4, rfl⟩ := hk 4 _ _ rfl rfl
  obtain ⟨n5, rfl, w5⟩ := hk 5 _ _ rfl rfl
  obtain ⟨n6, rfl, w6⟩ := hk 6 _ _ rfl rfl
  obtain ⟨n7, rfl, w7⟩ := hk 7 _ _ rfl rfl
  obtain ⟨n8, rfl, w8⟩ := hk 8 _ _ rfl rfl
  have a0 := bounds_i8 w0; have a1 := bounds_i8 w1; have a2 := bounds_i8 w2; have a3 := bounds_i8 w3; have a5 := bounds_i8 w5; have a6 := bounds_i8 w6; have a7 := bounds_i64 w7; have a8 := bounds_i64 w8
  refine ⟨⟨n0, n1, n2, n3, n4, n5, n6, n7, n8⟩, ?_, rfl⟩
  unfold ID.wf I8 I64
  dsimp only
  omega
theorem rows_id : ∀ rows : List (List Value), (∀ r ∈ rows, AllK instrK r) → ∃ l : List ID, l.length = rows.length ∧ (∀ x ∈ l, x.wf) ∧ rows.flatten = l.flatMap ID.cells
 | [], _ => ⟨[], rfl, by simp, rfl⟩
 | r :: t, h => by
  obtain ⟨x, hx, rfl⟩ := row_id (h r (by simp))
  obtain ⟨l, h1, h2, h3⟩ := rows_id t (fun q hq => h q (by simp [hq]))
  refine ⟨x :: l, by simp [h1], fun y hy => ?_, by simp [h3]⟩
  rcases List.mem_cons.1 hy with rfl | hy
  ·exact hx
  ·exact h2 y hy
theorem flat_at {α β : Type} (f : α → List β) (m : Nat) : ∀ (l : List α), (∀ x ∈ l, (f x).length = m) → ∀ (k j : Nat) (x : α) (u : β), l[k]? = some x → (f x)[j]? = some u → (l.flatMap f)[k * m + j]? = some u
 | [], _, k, j, x, u, hk, _ => by simp at hk
 | y :: r, hl, k, j, x, u, hk, hu => by
  rw [List.flatMap_cons]
  have hy := hl y (by simp)
  cases k with
  | zero =>
   simp at hk
   subst hk
   have hj : j < (f y).length := (List.getElem?_eq_some_iff.1 hu).1
   rw [Nat.zero_mul, Nat.zero_add, List.getElem?_append_left hj, hu]
  | succ k =>
   have := flat_at f m r (fun z hz => hl z (by simp [hz])) k j x u (by simpa using hk) hu
   rw [List.getElem?_append_right (by rw [hy, Nat.succ_mul]; omega), hy, show (k + 1) * m + j - m = k * m + j by rw [Nat.succ_mul]; omega]
   exact this
def InsAt (w : World) (B : Nat) (A : Option Addr) (n : Nat) (l : List ID) : Prop := l.length = n ∧ (∀ x ∈ l, x.wf) ∧ Reads w B 9 A n (l.flatMap ID.cells)
section
variable {w w' : World} {B n : Nat} {A : Option Addr} {l : List ID}
theorem InsAt.at_ {k : Nat} (h : InsAt w B A n l) (hk : k < n) : ∃ ad x, A = some ad ∧ ad.block < B ∧ l[k]? = some x ∧ x.wf ∧ ∀ j u, x.cells[j]? = some u → w.cell? ((ad.add (k * 9)).add j) = some u := by
 obtain ⟨h1, h2, h3⟩ := h
 obtain ⟨ad, e, hb, hc⟩ := h3.2 (by omega)
 have hx : l[k]? = some l[k] := List.getElem?_eq_getElem (by omega)
 refine ⟨ad, l[k], e, hb, hx, h2 _ (List.getElem_mem _), fun j u hu => ?_⟩
 rw [add_of_add]
 exact hc _ u (flat_at ID.cells 9 l (fun z hz => rfl) k j _ u hx hu)
theorem InsAt.below (h : InsAt w B A n l) (hb : Below B w w') : InsAt w' B A n l := ⟨h.1, h.2.1, h.2.2.below hb⟩
theorem InsAt.up (h : InsAt w B A n l) (hb : Below B w w') (hz : B ≤ w'.heap.size) : InsAt w' w'.heap.size A n l := ⟨h.1, h.2.1, (h.2.2.below hb).more hz⟩
theorem InsAt.alloc (h : InsAt w B A n l) (hB : B ≤ w.heap.size) (o : Obj) : InsAt (w.alloc o) B A n l := ⟨h.1, h.2.1, h.2.2.alloc hB o⟩
end
/-! ### which may be -/
def inB (n a b : Int) : Bool := decide (a ≤ n) && decide (n ≤ b)
def szB (n : Int) : Bool := n == 1 || n == 2 || n == 4 || n == 8
def rngB (x : ID) : Bool := inB x.dst 0 10 && inB x.src 0 10 && inB x.off (-32768) 32767 && inB x.imm (-2147483648) 2147483647
def kz (k : Int) : ID := ⟨k, 0, 0, 0, false, 0, 0, 0, 0⟩
def bareM (x : ID) : Bool :=
 if x.kind = 0 then inB x.op 0 12 && (x.width == 32 || x.width == 64) && decide (x.dst < 10) && (x.op != 8 || (!x.byReg && x.imm == 0))
 else if x.kind = 1 then szB x.size && decide (x.dst < 10)
 else if x.kind = 2 then szB x.size
 else if x.kind = 3 then inB x.op 0 10
 else if x.kind = 4 then true
 else if x.kind = 5 then inB x.imm 0 15
 else if x.kind = 6 then true
 else false
def immR (x : ID) : ID := if x.byReg then { x with src := 0, byReg := false } else { x with imm := 0, byReg := false }
def bareR (x : ID) : ID :=
 if x.kind = 0 then { immR x with op := 0, width := 0, dst := 0 }
 else if x.kind = 1 then { x with size := 0, dst := 0, src := 0, off := 0 }
 else if x.kind = 2 then { x with size := 0, dst := 0, src := 0, off := 0 }
 else if x.kind = 3 then { immR x with op := 0, dst := 0, off := 0 }
 else if x.kind = 4 then { x with off := 0 }
 else if x.kind = 5 then { x with imm := 0 }
 else x
def mayB (x : ID) : Bool := rngB x && (bareM x && eqL (bareR x).cells (kz x.kind).cells)
def tgtB (i : Int) (x : ID) : Bool := (x.kind == 3 || x.kind == 4) && inB i (-1099511627776) 1099511627776 && inB x.off (-1099511627776) 1099511627776
def tgtN (i : Int) (x : ID) : Int := if tgtB i x then i + 1 + x.off else 0
end
end Go.Proofs.YtepagfkkjlbipaaGreat
