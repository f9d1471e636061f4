/-
  Contracts of the laws' pick and mine: one way a term is made. Conditions: those written in each statement.
-/
import Derived.Test.YtfjflefgclfbfaaGreatUa
import Derived.BigQuiet
namespace Go.Proofs.YtfjflefgclfbfaaGreat
open Go.RowKit
set_option linter.unusedVariables false
set_option linter.unusedSimpArgs false
set_option maxRecDepth 100000
/-- One of some numbers; -1, if there are none. -/
def pickP (l : List Int) (k : Int) : Int := if l.length = 0 then -1 else l.getD (k % (l.length : Int)).toNat 0
theorem rem_twice {k : Int} {n : Nat} (hn : 0 < n) : (k.tmod (n : Int) + (n : Int)).tmod (n : Int) = k % (n : Int) := by
  have h1 : -(n : Int) < k.tmod (n : Int) := by
    have := Int.lt_tmod_of_pos k (show (0 : Int) < n by omega)
    omega
  rw [Int.tmod_eq_emod_of_nonneg (by omega)]
  have h2 := Int.tmod_eq_emod (a := k) (b := (n : Int))
  rw [h2]
  by_cases h : 0 ≤ k ∨ (n : Int) ∣ k
  · rw [if_pos h]
    simp
  · rw [if_neg h]
    have e : k % (n : Int) - (((n : Int).natAbs : Nat) : Int) + (n : Int) = k % (n : Int) := by omega
    rw [e]
    simp
theorem pick_any (l : List Int) (A : Option Addr) (n c : Nat) (B : Nat) (w : World) (hr : Reads w B 1 A n (l.map (Value.int .i64))) (hl : l.length = n) (hc : n ≤ c) (hn : n < 1000) (k : Int) (hk : I64 k) :
    Calls Tryz.prog 16 #[.slice A n c, .int .i64 k] w fun e w' => e = .returned (.int .i64 (pickP l k)) ∧ w = w' := by
  by_cases h0 : n = 0
  · subst h0
    have hv : pickP l k = -1 := by unfold pickP; rw [if_pos hl]
    rw [hv]
    clear hv hr hl
    go_enter Tryz.func16, Tryz.ntmps16
    go_wp2
    go_ret
    exact ⟨rfl, rfl⟩
  · have hp : 0 < n := by omega
    have e2 := rem_twice (k := k) hp
    have e1 : wrap64 (k.tmod (n : Int)) = k.tmod (n : Int) := by
      have h1 := Int.lt_tmod_of_pos k (show (0 : Int) < n by omega)
      have h2 := Int.tmod_lt_of_pos k (show (0 : Int) < n by omega)
      unfold wrap64; omega
    have e3 : wrap64 (k.tmod (n : Int) + (n : Int)) = k.tmod (n : Int) + (n : Int) := by
      have h1 := Int.lt_tmod_of_pos k (show (0 : Int) < n by omega)
      have h2 := Int.tmod_lt_of_pos k (show (0 : Int) < n by omega)
      unfold wrap64; omega
    have hj0 : 0 ≤ k % (n : Int) := Int.emod_nonneg _ (by omega)
    have hj1 : k % (n : Int) < n := Int.emod_lt_of_pos _ (by omega)
    obtain ⟨j, hj⟩ : ∃ j : Nat, k % (n : Int) = j := ⟨(k % (n : Int)).toNat, by omega⟩
    rw [hj] at e2 hj1
    have hv : pickP l k = l.getD j 0 := by unfold pickP; rw [if_neg (by omega), hl, hj]; rfl
    rw [hv]
    obtain ⟨ad, u, rfl, hb, hu, hcl⟩ := hr.at_ (show j < n by omega)
    have hu2 : u = .int .i64 (l.getD j 0) := by
      rw [List.getElem?_map] at hu
      rw [List.getD_eq_getElem?_getD]
      cases hq : l[j]? with
      | none => rw [hq] at hu; cases hu
      | some q => rw [hq] at hu; injection hu with hu; rw [← hu]; rfl
    subst hu2
    have hjc : j < c := by omega
    have hjn : j < n := by omega
    clear hr hv hj hj0 hl hu
    go_enter Tryz.func16, Tryz.ntmps16
    go_wp2
    go_ret
    exact ⟨rfl, rfl⟩
/-- How a term is made. -/
structure MD where
  kind : Int
  op : Int
  w : Int
  a : Int
  b : Int
  c : Int
  n : Int
def MD.cells (x : MD) : List Value := [.int .i64 x.kind, .int .i8 x.op, .int .i8 x.w, .int .i64 x.a, .int .i64 x.b, .int .i64 x.c, .int .u64 x.n]
def MD.wf (x : MD) : Prop := I64 x.kind ∧ I8 x.op ∧ I8 x.w ∧ I64 x.a ∧ I64 x.b ∧ I64 x.c ∧ U64 x.n
/-- What mine makes. -/
def mkF (f : Nat) (p : PS) (x : MD) (l : List Int) : Option RS :=
  if x.kind = 0 then some (putR p (constT x.n))
  else if x.kind = 1 then some (putR p (varT (x.n % 64) x.w))
  else if x.kind = 2 then opF f p x.op x.w (pickP l x.a) (pickP l x.b)
  else if x.kind = 3 then zextO f p x.w (pickP l x.a)
  else if x.kind = 4 then condF f p x.op x.w (pickP l x.a) (pickP l x.b)
  else iteF f p (pickP l x.a) (pickP l x.b) (pickP l x.c)
theorem pickP_i64 {l : List Int} (h : ∀ v ∈ l, I64 v) (k : Int) : I64 (pickP l k) := by
  unfold pickP
  split
  · unfold I64; omega
  · rw [List.getD_eq_getElem?_getD]
    cases hq : l[(k % (l.length : Int)).toNat]? with
    | none => unfold I64; simp
    | some q => exact h q (List.mem_of_getElem? hq)
section
variable {base g : Nat} {F : Nat → Prop} {p : PS}
set_option maxHeartbeats 8000000 in
theorem mine_any (f : Nat) (x : MD) (hx : x.wf) (l : List Int) (hl : ∀ v ∈ l, I64 v) (A : Option Addr) (n c : Nat) (hn : l.length = n) (hc : n ≤ c) (hs : n < 1000) (r : RS) (hO : mkF f p x l = some r) (W : World) (h : PoolAt W base F g p) (hbase : base ≤ W.heap.size) (hr : Reads W W.heap.size 1 A n (l.map (Value.int .i64))) :
    Calls Tryz.prog 7 #[.pointer (some ⟨g, 0, none⟩), .agg x.cells.toArray, .slice A n c] W (RetP base g F W r) := by
  have HO := hide hO
  have HX := hide hx
  have HP := hide h
  have HBS := hide hbase
  have HR := hide hr
  have HPK := hide (fun (k : Int) (hk : I64 k) (w : World) (hr : Reads w W.heap.size 1 A n (l.map (Value.int .i64))) => pick_any l A n c _ w hr hn hc hs k hk)
  have HXC := hide (show x.cells.length = 7 by simp [MD.cells])
  have hb1 := bl_alloc W (.cells x.cells.toArray 33)
  have HB1 := hide hb1
  have HBX := hide (Blk.new W 33 x.cells.toArray)
  have HI := hide (show ∀ k, I64 (pickP l k) from fun k => pickP_i64 hl k)
  unfold mkF at hO
  replace HO := hide hO
  clear hO hx h hbase hr hb1
  go_enter Tryz.func7, Tryz.ntmps7
  go_upto_region 1 with fail
  generalize W.alloc (.cells x.cells.toArray 33) = W1 at HB1 HBX ⊢
  have HR1 := hide (HR.out.below HB1.out)
  obtain ⟨bx, hbx⟩ : ∃ b, W.heap.size = b := ⟨_, rfl⟩
  rw [hbx] at HBX ⊢
  clear hbx
  have c0 := HBX.out.cell 0
  have c1 := HBX.out.cell 1
  have c2 := HBX.out.cell 2
  have c3 := HBX.out.cell 3
  have c4 := HBX.out.cell 4
  have c5 := HBX.out.cell 5
  have c6 := HBX.out.cell 6
  simp [MD.cells] at c0 c1 c2 c3 c4 c5 c6
  have HPA := hide (HPK.out x.a HX.out.2.2.2.1)
  have HPB := hide (HPK.out x.b HX.out.2.2.2.2.1)
  have HPC := hide (HPK.out x.c HX.out.2.2.2.2.2.1)
  have HIA := hide (HI.out x.a)
  have HIB := hide (HI.out x.b)
  have HIC := hide (HI.out x.c)
  clear HPK HI
  generalize pickP l x.a = pa at HO HPA HIA
  generalize pickP l x.b = pb at HO HPB HIB
  generalize pickP l x.c = pc at HO HPC HIC
  refine wp_region_E (fun w' => Blk w' bx 33 x.cells.toArray) (fun _ => True) [] (by kernel_rfl) ?_
  have HRd := hide (HR1.out.below ((Below.refl W1.heap.size W1).drew.mono HB1.out.size))
  have HBd := hide (HB1.out.drew)
  have HT := hide (HBX.out.below ((Below.refl _ _).drew) HBX.out.lt)
  clear c0 c1 c2 c3 c4 c5 c6 HR1 HB1 HBX
  generalize W1.drew = Wd at HRd HBd HT ⊢
  refine E_move 0 (some 11) _ (.slice A n c) rfl (by kernel_rfl) (by rfl) (fun _ _ _ h => h) (by rfl) (.both HT.out trivial) ?_
  simp only [Act.put, List.setIfInBounds_toArray, List.set_cons_zero, List.set_cons_succ]
  refine E_any false 1 (some 12) _ (.pointer (some ⟨bx, 3, none⟩)) rfl (by kernel_rfl) (by rfl) (fun _ _ _ h => h) (fun o e w _ => by unfold execOp; simp only [e]; go_simp) (.both HT.out trivial) ?_
  simp only [Act.put, List.setIfInBounds_toArray, List.set_cons_zero, List.set_cons_succ]
  refine E_load1 false 2 (some 13) 3 _ ⟨bx, 3, none⟩ (.int .i64 x.a) rfl (by kernel_rfl) (by rfl) (fun _ _ _ h => h) (by rfl) (fun w hS => run_loadVar_one _ _ _ _ Tryz.underlying3 rfl (hS.1.cell 3)) (.both HT.out trivial) ?_
  simp only [Act.put, List.setIfInBounds_toArray, List.set_cons_zero, List.set_cons_succ]
  refine E_move 4 (some 15) _ (.slice A n c) rfl (by kernel_rfl) (by rfl) (fun _ _ _ h => h) (by rfl) (.both HT.out trivial) ?_
  simp only [Act.put, List.setIfInBounds_toArray, List.set_cons_zero, List.set_cons_succ]
  refine E_any false 5 (some 16) _ (.pointer (some ⟨bx, 4, none⟩)) rfl (by kernel_rfl) (by rfl) (fun _ _ _ h => h) (fun o e w _ => by unfold execOp; simp only [e]; go_simp) (.both HT.out trivial) ?_
  simp only [Act.put, List.setIfInBounds_toArray, List.set_cons_zero, List.set_cons_succ]
  refine E_load1 false 6 (some 17) 3 _ ⟨bx, 4, none⟩ (.int .i64 x.b) rfl (by kernel_rfl) (by rfl) (fun _ _ _ h => h) (by rfl) (fun w hS => run_loadVar_one _ _ _ _ Tryz.underlying3 rfl (hS.1.cell 4)) (.both HT.out trivial) ?_
  simp only [Act.put, List.setIfInBounds_toArray, List.set_cons_zero, List.set_cons_succ]
  refine E_move 8 (some 19) _ (.slice A n c) rfl (by kernel_rfl) (by rfl) (fun _ _ _ h => h) (by rfl) (.both HT.out trivial) ?_
  simp only [Act.put, List.setIfInBounds_toArray, List.set_cons_zero, List.set_cons_succ]
  refine E_any false 9 (some 20) _ (.pointer (some ⟨bx, 5, none⟩)) rfl (by kernel_rfl) (by rfl) (fun _ _ _ h => h) (fun o e w _ => by unfold execOp; simp only [e]; go_simp) (.both HT.out trivial) ?_
  simp only [Act.put, List.setIfInBounds_toArray, List.set_cons_zero, List.set_cons_succ]
  refine E_load1 false 10 (some 21) 3 _ ⟨bx, 5, none⟩ (.int .i64 x.c) rfl (by kernel_rfl) (by rfl) (fun _ _ _ h => h) (by rfl) (fun w hS => run_loadVar_one _ _ _ _ Tryz.underlying3 rfl (hS.1.cell 5)) (.both HT.out trivial) ?_
  simp only [Act.put, List.setIfInBounds_toArray, List.set_cons_zero, List.set_cons_succ]
  refine E_one 3 (by kernel_rfl) (StepE.of 3 (some 14) _ rfl (by rfl) fun o K h2 h3 hKK => ?_)
  unfold Oper.wp execOp
  simp only [h3]
  go_simp
  refine (HPA.out _ HRd.out).mono ?_
  rintro e w8 ⟨rfl, rfl⟩
  dsimp only
  refine hKK _ _ (.both HT.out trivial) ?_
  clear hKK h2 h3 K o
  try simp only [Act.put, List.setIfInBounds_toArray, List.set_cons_zero, List.set_cons_succ]
  refine E_one 7 (by kernel_rfl) (StepE.of 7 (some 18) _ rfl (by rfl) fun o K h2 h3 hKK => ?_)
  unfold Oper.wp execOp
  simp only [h3]
  go_simp
  refine (HPB.out _ HRd.out).mono ?_
  rintro e w8 ⟨rfl, rfl⟩
  dsimp only
  refine hKK _ _ (.both HT.out trivial) ?_
  clear hKK h2 h3 K o
  try simp only [Act.put, List.setIfInBounds_toArray, List.set_cons_zero, List.set_cons_succ]
  refine E_one 11 (by kernel_rfl) (StepE.of 11 (some 22) _ rfl (by rfl) fun o K h2 h3 hKK => ?_)
  unfold Oper.wp execOp
  simp only [h3]
  go_simp
  refine (HPC.out _ HRd.out).mono ?_
  rintro e w8 ⟨rfl, rfl⟩
  dsimp only
  refine hKK _ _ (.both HT.out trivial) ?_
  clear hKK h2 h3 K o
  try simp only [Act.put, List.setIfInBounds_toArray, List.set_cons_zero, List.set_cons_succ]
  refine E_one 12 (by kernel_rfl) (StepE.assign 12 (some 8) _ (.int .i64 pa) rfl (by rfl) (by rfl) (.both HT.out trivial) ?_)
  simp only [Act.put, List.setIfInBounds_toArray, List.set_cons_zero, List.set_cons_succ]
  refine E_one 13 (by kernel_rfl) (StepE.assign 13 (some 9) _ (.int .i64 pb) rfl (by rfl) (by rfl) (.both HT.out trivial) ?_)
  simp only [Act.put, List.setIfInBounds_toArray, List.set_cons_zero, List.set_cons_succ]
  refine E_one 14 (by kernel_rfl) (StepE.assign 14 (some 10) _ (.int .i64 pc) rfl (by rfl) (by rfl) (.both HT.out trivial) ?_)
  simp only [Act.put, List.setIfInBounds_toArray, List.set_cons_zero, List.set_cons_succ]
  refine wpAnyE_done (by kernel_rfl) ?_ _
  have c0 := HT.out.cell 0
  have c1 := HT.out.cell 1
  have c2 := HT.out.cell 2
  have c6 := HT.out.cell 6
  simp [MD.cells] at c0 c1 c2 c6
  have HBm := hide (Nat.le_trans HBS.out HBd.out.size)
  have HPd := hide (PG.of_below HP.out HBd.out)
  cases k0 : (x.kind == 0)
  rotate_left
  · have n0 : x.kind = 0 := by simpa using k0
    have hO := HO.out
    rw [if_pos n0] at hO
    injection hO with hO
    subst hO
    go_wp2_with fail
    refine (const_any x.n HX.out.2.2.2.2.2.2 _ HPd.out.pool HBm.out).mono ?_
    rintro e w9 ⟨rfl, hr9⟩
    have HR9 := hide hr9
    clear hr9
    go_wp2
    go_ret2
    exact RetP.from HPd.out ⟨rfl, HR9.out⟩
  cases k1 : (x.kind == 1)
  rotate_left
  · have n1 : x.kind = 1 := by simpa using k1
    have hO := HO.out
    rw [if_neg (by omega), if_pos n1] at hO
    injection hO with hO
    subst hO
    have hu := HX.out.2.2.2.2.2.2
    have hm : x.n.tmod 64 = x.n % 64 := Int.tmod_eq_emod_of_nonneg hu.1
    have hw1 : IntKind.u64.wrap (x.n % 64) = x.n % 64 := by rw [IntKind.wrap_u64]; omega
    have hw2 : wrap64 (x.n % 64) = x.n % 64 := by unfold wrap64; omega
    have h0 : 0 ≤ x.n % 64 := by omega
    have h1 : x.n % 64 < 64 := by omega
    have HVA := hide (fun w hp hb => var_any (base := base) (g := g) (F := F) (p := p) (x.n % 64) x.w h0 (by omega) HX.out.2.2.1 w hp hb)
    go_wp2_with fail
    refine (HVA.out _ HPd.out.pool HBm.out).mono ?_
    rintro e w9 ⟨rfl, hr9⟩
    have HR9 := hide hr9
    clear hr9
    go_wp2
    go_ret2
    exact RetP.from HPd.out ⟨rfl, HR9.out⟩
  cases k2 : (x.kind == 2)
  rotate_left
  · have n2 : x.kind = 2 := by simpa using k2
    have hO := HO.out
    rw [if_neg (by omega), if_neg (by omega), if_pos n2] at hO
    have HO2 := hide hO
    clear hO
    go_wp2_with fail
    refine (op_all (base := base) (g := g) f x.op x.w pa pb HIA.out HIB.out F p r HO2.out _ HPd.out.pool HBm.out).mono ?_
    rintro e w9 ⟨rfl, hr9⟩
    have HR9 := hide hr9
    clear hr9
    go_wp2
    go_ret2
    exact RetP.from HPd.out ⟨rfl, HR9.out⟩
  cases k3 : (x.kind == 3)
  rotate_left
  · have n3 : x.kind = 3 := by simpa using k3
    have hO := HO.out
    rw [if_neg (by omega), if_neg (by omega), if_neg (by omega), if_pos n3] at hO
    have HO2 := hide hO
    clear hO
    go_wp2_with fail
    refine (Zext_any f x.w pa HIA.out r HO2.out _ HPd.out.pool HBm.out).mono ?_
    rintro e w9 ⟨rfl, hr9⟩
    have HR9 := hide hr9
    clear hr9
    go_wp2
    go_ret2
    exact RetP.from HPd.out ⟨rfl, HR9.out⟩
  cases k4 : (x.kind == 4)
  rotate_left
  · have n4 : x.kind = 4 := by simpa using k4
    have hO := HO.out
    rw [if_neg (by omega), if_neg (by omega), if_neg (by omega), if_neg (by omega), if_pos n4] at hO
    have HO2 := hide hO
    clear hO
    go_wp2_with fail
    refine (cond_all (base := base) (g := g) f x.op x.w pa pb HIA.out HIB.out F p r HO2.out _ HPd.out.pool HBm.out).mono ?_
    rintro e w9 ⟨rfl, hr9⟩
    have HR9 := hide hr9
    clear hr9
    go_wp2
    go_ret2
    exact RetP.from HPd.out ⟨rfl, HR9.out⟩
  · have hO := HO.out
    rw [if_neg (by simpa using k0), if_neg (by simpa using k1), if_neg (by simpa using k2), if_neg (by simpa using k3), if_neg (by simpa using k4)] at hO
    have HO2 := hide hO
    clear hO
    go_wp2_with fail
    refine (ite_all (base := base) (g := g) f pa pb pc HIA.out HIB.out HIC.out F p r HO2.out _ HPd.out.pool HBm.out).mono ?_
    rintro e w9 ⟨rfl, hr9⟩
    have HR9 := hide hr9
    clear hr9
    go_wp2
    go_ret2
    exact RetP.from HPd.out ⟨rfl, HR9.out⟩
end
end Go.Proofs.YtfjflefgclfbfaaGreat
