/-
  lathelaw28.valued: 260 numbers of the call's own. Two pools side by side. Conditions: those written in each statement.
-/
import Derived.Test.YtepagfkkjlbipaaVb
import Derived.Test.YtepagfkkjlbipaaRr
import Derived.Test.YtepagfkkjlbipaaLai
namespace Go.Proofs.Ytepagfkkjlbipaa
open Go.RowKit
set_option linter.unusedVariables false
set_option linter.unusedSimpArgs false
set_option maxRecDepth 100000
def u64C (V : List Int) : List Value := V.map (Value.int .u64)
theorem u64C_set (V : List Int) (i : Nat) (v : Int) : (u64C V).toArray.setIfInBounds i (.int .u64 v) = (u64C (V.set i v)).toArray := by
  unfold u64C
  rw [List.setIfInBounds_toArray, List.map_set]
theorem run_ixu {ad : Addr} {n cap i : Nat} (h0 : i < n) (w : World) : (Instr.indexAt 44 (.slice (some ad) n cap) (.int .i64 (i : Int))).run Try.prog w = .ok (.pointer (some (ad.add i))) w := by
  go_simp
theorem run_ixg {g n cap i : Nat} (h0 : i < n) (w : World) : (Instr.indexAt 44 (.slice (some ⟨g, 0, none⟩) n cap) (.int .i64 (i : Int))).run Try.prog w = .ok (.pointer (some ⟨g, i, none⟩)) w := by
  rw [run_ixu h0 w]
  simp [Addr.add]
  omega
theorem run_rem {k n : Nat} (hn : 0 < n) (h : n < 9223372036854775808) (hk : k < 9223372036854775808) (w : World) : (binOp .rem 3 (.int .i64 (k : Int)) (.int .i64 (n : Int))).run Try.prog w = .ok (.int .i64 ((k % n : Nat) : Int)) w := by
  have h0 : ¬ n = 0 := by omega
  go_simp
  rw [Int.tmod_eq_emod_of_nonneg (by omega)]
theorem run_quo {k n : Nat} (hn : 0 < n) (h : n < 9223372036854775808) (hk : k < 9223372036854775808) (w : World) : (binOp .quo 3 (.int .i64 (k : Int)) (.int .i64 (n : Int))).run Try.prog w = .ok (.int .i64 ((k / n : Nat) : Int)) w := by
  have h0 : ¬ n = 0 := by omega
  have hm : k / n ≤ k := Nat.div_le_self _ _
  have q0 : 0 ≤ (k : Int) / (n : Int) := Int.ediv_nonneg (by omega) (by omega)
  have q1 : (k : Int) / (n : Int) ≤ (k : Int) := by
    rw [show (k : Int) / (n : Int) = ((k / n : Nat) : Int) by simp]
    omega
  have e3 : IntKind.i64.wrap ((k : Int) / (n : Int)) = (k : Int) / (n : Int) := by rw [IntKind.wrap_i64]; omega
  clear q0 q1 hm
  go_simp
def z260 : List Int := List.replicate 260 0
theorem E_len {ops : Array Oper} {Q : Exit → Act → World → Prop} {md : Region.Mode} {T S : World → Prop} {late : List Nat} {fuel : Nat} {listed : Array Bool} {a : Act} {w : World} (i : Nat) (d : Option Tmp) (x : Operand) (A : Option Addr) (n c : Nat) (ho : opAt ops i = some (d, .call { callee := .builtin .len, args := #[x], argTypes := #[44] })) (hc : checkE md ops late listed i false = true) (hw : wantAt ops i a = some true)
    (hQ : ∀ c a w, Q (.panic c) (a.put d (.int .i64 (n : Int))) w → Q (.panic c) a w) (hx : a.eval x = .slice A n c)
    (hS : St T S late listed w) (h : wpAnyE Try.prog md ops Q T S late fuel (listed.setIfInBounds i true) (a.put d (.int .i64 (n : Int))) w) : wpAnyE Try.prog md ops Q T S late (fuel + 1) listed a w :=
  E_any false i d _ _ ho hc hw hQ (fun o e w _ => by
    unfold execOp
    simp only [e, resolve, invoke, builtin, Sem.run_bind, Sem.run_pure, Result.andThen_ok, List.map_toArray, List.map_cons, List.map_nil, hx]
    go_simp) hS h
theorem E_conv {ops : Array Oper} {Q : Exit → Act → World → Prop} {md : Region.Mode} {T S : World → Prop} {late : List Nat} {fuel : Nat} {listed : Array Bool} {a : Act} {w : World} (i : Nat) (d : Option Tmp) (x : Operand) (n : Nat) (hn : n < 9223372036854775808) (ho : opAt ops i = some (d, .convert 3 46 x)) (hc : checkE md ops late listed i false = true) (hw : wantAt ops i a = some true)
    (hQ : ∀ c a w, Q (.panic c) (a.put d (.int .u64 (n : Int))) w → Q (.panic c) a w) (hx : a.eval x = .int .i64 (n : Int))
    (hS : St T S late listed w) (h : wpAnyE Try.prog md ops Q T S late fuel (listed.setIfInBounds i true) (a.put d (.int .u64 (n : Int))) w) : wpAnyE Try.prog md ops Q T S late (fuel + 1) listed a w :=
  E_any false i d _ _ ho hc hw hQ (fun o e w _ => by
    unfold execOp
    simp only [e, hx, Sem.run_bind, Sem.run_pure, Result.andThen_ok]
    have hh : IntKind.u64.wrap (n : Int) = (n : Int) := by rw [IntKind.wrap_u64]; omega
    go_simp) hS h
theorem cells_z260 : madeCells (Value.int .u64 0).cells (260 * 1) = (u64C z260).toArray := by kernel_rfl
theorem bin_plain {b : BinOp} {t : TypeId} {x y : Operand} {u z v : Value} (hb : ∀ w : World, (eqGuard b t x y u z).run Try.prog w = .ok () w) (h : ∀ w, (binOp b t u z).run Try.prog w = .ok v w) : ∀ w : World, (do eqGuard b t x y u z; binOp b t u z : Sem Value).run Try.prog w = .ok v w := fun w => by
  rw [Sem.run_bind, hb w, Result.andThen_ok, h w]
theorem sizU : (Try.prog.info? 46).map (·.size) = some 1 := by kernel_rfl
theorem infU : (Try.prog.info? 46).map (fun i => (i.zero, i.size, i.bytes)) = some (some (.int .u64 0), 1, 8) := by kernel_rfl
def ValP (w : World) (e : Ending) (w' : World) : Prop := ∃ V : List Int, e = .returned (.slice (some ⟨w.heap.size, 0, none⟩) 260 260) ∧ V.length = 260 ∧ (∀ v ∈ V, U64 v) ∧ Blk w' w.heap.size 46 (u64C V).toArray ∧ Below w.heap.size w w'
set_option maxHeartbeats 4000000 in
theorem valued_any (A : Option Addr) (n c : Nat) (l : List Int) (w : World) (hr : Reads w w.heap.size 1 A n (u64C l)) (hl : l.length = n) (hc : n ≤ c) (hn : n ≤ 100) : Calls Try.prog 12 #[.slice A n c] w (ValP w) := by
  have HR := hide hr
  have HL := hide hl
  have HC := hide hc
  have hmk : ∀ w : World, (Instr.makeSlice 44 (.int .i64 260) (.int .i64 260)).run Try.prog w = .ok (.slice (some ⟨w.heap.size, 0, none⟩) 260 260) (w.alloc (.cells (u64C z260).toArray 46)) := fun w => by
    obtain ⟨iU, hiU, hzU, hsU, hbU⟩ := info_parts infU
    have := run_make_rowN (P := Try.prog) 44 46 iU _ Try.underlying44 hiU hzU .i64 .i64 260 260 (by omega) (by rw [hbU]; omega) (by omega) w
    rw [hsU] at this
    rw [cells_z260] at this
    exact this
  clear hr hl hc
  go_enter Try.func12, Try.ntmps12
  go_wp2_with fail
  have hX := Blk.new w 46 (u64C z260).toArray
  have hL : Below w.heap.size w (w.alloc (.cells (u64C z260).toArray 46)) := (Below.refl _ _).alloc (Nat.le_refl _) _
  obtain ⟨g, hg⟩ : ∃ q, w.heap.size = q := ⟨_, rfl⟩
  have HG := hide hg
  generalize w.alloc (.cells (u64C z260).toArray 46) = w1 at hX hL ⊢
  have HX := hide hX
  have HB := hide hL
  clear hmk hX hL
  rw [hg] at HX HB HR ⊢
  clear hg
  go_loopw [4] (fun i wr => ∃ (k : Nat) (V : List Int), k ≤ 260 ∧ i = .int .i64 k ∧ Hid (V.length = 260 ∧ (∀ v ∈ V, U64 v) ∧ Blk wr g 46 (u64C V).toArray ∧ Below g w wr)) (fun i _ => 260 - (intOf i).toNat)
  case atStart => exact ⟨0, z260, by omega, rfl, rfl, fun v hv => by rw [List.eq_of_mem_replicate hv]; unfold U64; omega, HX.out, HB.out⟩
  case round =>
    obtain ⟨k, V, hk, rfl, HV⟩ := hrel
    rename World => wr
    clear HX HB
    by_cases hk2 : k < 260
    · cases hn0 : decide (0 < n)
      · go_wp2
        go_roundw
        case measure => simp [intOf]; omega
        case rel => exact ⟨k + 1, V, by omega, by go_num, HV.out⟩
      · have hn0 : 0 < n := by simpa using hn0
        have hmod : k % n < n := Nat.mod_lt _ hn0
        have hn63 : n < 9223372036854775808 := by omega
        have hk63 : k < 9223372036854775808 := by omega
        obtain ⟨ad, rfl, hab, hcl⟩ := HR.out.2 hn0
        obtain ⟨x, hx⟩ : ∃ x, l[k % n]? = some x := ⟨_, List.getElem?_eq_getElem (by rw [HL.out]; exact hmod)⟩
        have HT0 := hide (show wr.drew.cell? (ad.add (k % n)) = some (.int .u64 x) from (HV.out.2.2.2.cell (by rw [block_of_add]; exact hab)).trans (hcl (k % n) _ (by unfold u64C; rw [List.getElem?_map, hx]; rfl)))
        have HM := hide (And.intro hmod (And.intro hn63 hk63))
        clear hab hcl hx hmod hn63 hk63
        go_upto_region 6 with fail
        have hn0 := hn0
        have hmod := HM.out.1
        have hn63 := HM.out.2.1
        have hk63 := HM.out.2.2
        refine wp_region_E (fun _ => True) (fun w' => w'.cell? (ad.add (k % n)) = some (.int .u64 x)) [17] (by kernel_rfl) ?_
        replace HV := hide (show V.length = 260 ∧ (∀ v ∈ V, U64 v) ∧ Blk wr.drew g 46 (u64C V).toArray ∧ Below g w wr.drew from ⟨HV.out.1, HV.out.2.1, HV.out.2.2.1.drew, HV.out.2.2.2.drew⟩)
        generalize wr.drew = Wd at HV HT0 ⊢
        have HS := HT0
        have HB := hide HV.out.2.2.1
        have HLV := hide HV.out.1
        have hlv := HV.out.1
        have hq63 : k / n < 9223372036854775808 := Nat.lt_of_le_of_lt (Nat.div_le_self _ _) hk63
        clear HT0
        refine E_move 0 (some 15) _ (.slice (some ⟨g, 0, none⟩) 260 260) rfl (by kernel_rfl) (by rfl) (fun _ _ _ h => h) (by rfl) (.both trivial HS.out) ?_
        simp only [Act.put, List.setIfInBounds_toArray, List.set_cons_zero, List.set_cons_succ]
        refine E_move 1 (some 16) _ (.int .i64 (k : Int)) rfl (by kernel_rfl) (by rfl) (fun _ _ _ h => h) (by rfl) (.both trivial HS.out) ?_
        simp only [Act.put, List.setIfInBounds_toArray, List.set_cons_zero, List.set_cons_succ]
        refine E_move 2 (some 17) _ (.slice (some ad) n c) rfl (by kernel_rfl) (by rfl) (fun _ _ _ h => h) (by rfl) (.both trivial HS.out) ?_
        simp only [Act.put, List.setIfInBounds_toArray, List.set_cons_zero, List.set_cons_succ]
        refine E_move 3 (some 18) _ (.int .i64 (k : Int)) rfl (by kernel_rfl) (by rfl) (fun _ _ _ h => h) (by rfl) (.both trivial HS.out) ?_
        simp only [Act.put, List.setIfInBounds_toArray, List.set_cons_zero, List.set_cons_succ]
        refine E_move 4 (some 19) _ (.slice (some ad) n c) rfl (by kernel_rfl) (by rfl) (fun _ _ _ h => h) (by rfl) (.both trivial HS.out) ?_
        simp only [Act.put, List.setIfInBounds_toArray, List.set_cons_zero, List.set_cons_succ]
        refine E_len 5 (some 20) _ (some ad) n c rfl (by kernel_rfl) (by rfl) (fun _ _ _ h => h) (by rfl) (.both trivial HS.out) ?_
        simp only [Act.put, List.setIfInBounds_toArray, List.set_cons_zero, List.set_cons_succ]
        refine E_bin 6 (some 21) _ _ _ _ _ (.int .i64 (k : Int)) (.int .i64 (n : Int)) (.int .i64 ((k % n : Nat) : Int)) rfl (by kernel_rfl) (by rfl) (fun _ _ _ h => h) (by rfl) (by rfl) (bin_plain (fun w => by kernel_rfl) (run_rem hn0 hn63 hk63)) (.both trivial HS.out) ?_
        simp only [Act.put, List.setIfInBounds_toArray, List.set_cons_zero, List.set_cons_succ]
        refine E_index 7 (some 22) _ _ _ (.slice (some ad) n c) (.int .i64 ((k % n : Nat) : Int)) (.pointer (some (ad.add (k % n)))) rfl (by kernel_rfl) (by rfl) (fun _ _ _ h => h) (by rfl) (by rfl) (run_ixu hmod) (.both trivial HS.out) ?_
        simp only [Act.put, List.setIfInBounds_toArray, List.set_cons_zero, List.set_cons_succ]
        refine E_load1 true 8 (some 23) 46 _ (ad.add (k % n)) (.int .u64 x) rfl (by kernel_rfl) (by rfl) (fun _ _ _ h => h) (by rfl) (fun w hS => run_loadVar_one _ _ _ _ Try.underlying46 rfl (hS.2 rfl)) (.both trivial HS.out) ?_
        simp only [Act.put, List.setIfInBounds_toArray, List.set_cons_zero, List.set_cons_succ]
        refine E_move 9 (some 24) _ (.int .i64 (k : Int)) rfl (by kernel_rfl) (by rfl) (fun _ _ _ h => h) (by rfl) (.both trivial HS.out) ?_
        simp only [Act.put, List.setIfInBounds_toArray, List.set_cons_zero, List.set_cons_succ]
        refine E_move 10 (some 25) _ (.slice (some ad) n c) rfl (by kernel_rfl) (by rfl) (fun _ _ _ h => h) (by rfl) (.both trivial HS.out) ?_
        simp only [Act.put, List.setIfInBounds_toArray, List.set_cons_zero, List.set_cons_succ]
        refine E_len 11 (some 26) _ (some ad) n c rfl (by kernel_rfl) (by rfl) (fun _ _ _ h => h) (by rfl) (.both trivial HS.out) ?_
        simp only [Act.put, List.setIfInBounds_toArray, List.set_cons_zero, List.set_cons_succ]
        refine E_bin 12 (some 27) _ _ _ _ _ (.int .i64 (k : Int)) (.int .i64 (n : Int)) (.int .i64 ((k / n : Nat) : Int)) rfl (by kernel_rfl) (by rfl) (fun _ _ _ h => h) (by rfl) (by rfl) (bin_plain (fun w => by kernel_rfl) (run_quo hn0 hn63 hk63)) (.both trivial HS.out) ?_
        simp only [Act.put, List.setIfInBounds_toArray, List.set_cons_zero, List.set_cons_succ]
        refine E_conv 13 (some 28) _ (k / n) hq63 rfl (by kernel_rfl) (by rfl) (fun _ _ _ h => h) (by rfl) (.both trivial HS.out) ?_
        simp only [Act.put, List.setIfInBounds_toArray, List.set_cons_zero, List.set_cons_succ]
        refine E_bin 14 (some 29) _ _ _ _ _ (.int .u64 ((k / n : Nat) : Int)) (.int .u64 11400714819323198485) (.int .u64 (IntKind.u64.wrap (((k / n : Nat) : Int) * 11400714819323198485))) rfl (by kernel_rfl) (by rfl) (fun _ _ _ h => h) (by rfl) (by rfl) (bin_plain (fun w => by kernel_rfl) (fun w => by go_simp)) (.both trivial HS.out) ?_
        simp only [Act.put, List.setIfInBounds_toArray, List.set_cons_zero, List.set_cons_succ]
        refine E_bin 15 (some 30) _ _ _ _ _ (.int .u64 x) (.int .u64 (IntKind.u64.wrap (((k / n : Nat) : Int) * 11400714819323198485))) (.int .u64 (IntKind.u64.wrap (x + IntKind.u64.wrap (((k / n : Nat) : Int) * 11400714819323198485)))) rfl (by kernel_rfl) (by rfl) (fun _ _ _ h => h) (by rfl) (by rfl) (bin_plain (fun w => by kernel_rfl) (fun w => by go_simp)) (.both trivial HS.out) ?_
        simp only [Act.put, List.setIfInBounds_toArray, List.set_cons_zero, List.set_cons_succ]
        refine E_index 16 (some 31) _ _ _ (.slice (some ⟨g, 0, none⟩) 260 260) (.int .i64 (k : Int)) (.pointer (some ⟨g, k, none⟩)) rfl (by kernel_rfl) (by rfl) (fun _ _ _ h => h) (by rfl) (by rfl) (run_ixg hk2) (.both trivial HS.out) ?_
        simp only [Act.put, List.setIfInBounds_toArray, List.set_cons_zero, List.set_cons_succ]
        refine E_one 17 (by kernel_rfl) (StepE.store_at 17 46 _ _ ⟨g, k, none⟩ (.int .u64 (IntKind.u64.wrap (x + IntKind.u64.wrap (((k / n : Nat) : Int) * 11400714819323198485)))) _ rfl (by rfl) (by rfl) (by rfl) (run_storeVar_one 46 g k 46 _ _ HB.out (by unfold u64C; simp; omega) sizU rfl rfl) (.after trivial (by kernel_rfl)) ?_)
        simp only [Act.put, List.setIfInBounds_toArray, List.set_cons_zero, List.set_cons_succ]
        refine wpAnyE_done (by kernel_rfl) ?_ _
        have hch : Chg (fun q => q = g) Wd (Wd.setCell ⟨g, k, none⟩ (.int .u64 (IntKind.u64.wrap (x + IntKind.u64.wrap (((k / n : Nat) : Int) * 11400714819323198485))))) := Chg.of_grown (row := some g) ⟨rfl, rfl, rfl, by simp [World.setCell], fun i _ hne => Below.heap_setCell Wd ⟨g, k, none⟩ _ i (fun e => hne (by rw [e]))⟩ (fun q e => by injection e with e; exact .inl e.symm)
        replace HV := hide (show (V.set k (IntKind.u64.wrap (x + IntKind.u64.wrap (((k / n : Nat) : Int) * 11400714819323198485)))).length = 260 ∧ (∀ v ∈ V.set k (IntKind.u64.wrap (x + IntKind.u64.wrap (((k / n : Nat) : Int) * 11400714819323198485))), U64 v) ∧ Blk (Wd.setCell ⟨g, k, none⟩ (.int .u64 (IntKind.u64.wrap (x + IntKind.u64.wrap (((k / n : Nat) : Int) * 11400714819323198485))))) g 46 (u64C (V.set k (IntKind.u64.wrap (x + IntKind.u64.wrap (((k / n : Nat) : Int) * 11400714819323198485))))).toArray ∧ Below g w (Wd.setCell ⟨g, k, none⟩ (.int .u64 (IntKind.u64.wrap (x + IntKind.u64.wrap (((k / n : Nat) : Int) * 11400714819323198485))))) from ⟨by rw [List.length_set]; exact HV.out.1, fun v hv => (List.mem_or_eq_of_mem_set hv).elim (HV.out.2.1 v) (fun e => e ▸ wrap_u64 _), by rw [← u64C_set]; exact HV.out.2.2.1.set_ k _, HV.out.2.2.2.trans (hch.below (B := g) (fun q e => by omega) (by have := HV.out.2.2.2.size; rw [HG.out] at this; exact this))⟩)
        clear HS HB hch
        generalize Wd.setCell ⟨g, k, none⟩ (.int .u64 (IntKind.u64.wrap (x + IntKind.u64.wrap (((k / n : Nat) : Int) * 11400714819323198485)))) = We at HV ⊢
        generalize V.set k (IntKind.u64.wrap (x + IntKind.u64.wrap (((k / n : Nat) : Int) * 11400714819323198485))) = V2 at HV
        clear hlv HLV hq63
        go_wp2
        go_roundw
        case measure => simp [intOf]; omega
        case rel => exact ⟨k + 1, V2, by omega, by go_num, HV.out⟩
    · obtain rfl : k = 260 := by omega
      go_wp2
      go_ret
      unfold ValP
      rw [HG.out]
      exact ⟨V, rfl, HV.out⟩
end Go.Proofs.Ytepagfkkjlbipaa
