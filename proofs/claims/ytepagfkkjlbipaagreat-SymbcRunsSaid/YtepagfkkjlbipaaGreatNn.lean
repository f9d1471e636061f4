/-
  Contracts of Op's laws 3, 5, 10, 11, 12. Conditions: those written in each statement.
-/
import Derived.Test.YtepagfkkjlbipaaGreatKam
import Derived.Laws.Closers25b
set_option linter.unusedVariables false
set_option linter.unusedSimpArgs false
set_option maxHeartbeats 64000000
set_option maxRecDepth 100000
namespace Go.Proofs.YtepagfkkjlbipaaGreat
open Go.RowKit
open Tryz
section
variable {base f g : Nat}{op x a b c d : Int}{lf rt tn sh : Bool}{b5 b6 b7 b8 b9 b15 b17 b18 b19 b20 b21 b22 b23 b24 : Nat}{F : Nat → Prop}{W : World}{p : PS}{r : RS}
theorem zhd (o : BinOp)(a b : Int) : U64 (bits o .u64 a b) := by
 have h := bits_within o .u64 a b;have h1 : IntKind.u64.min = 0 := rfl;have h2 : IntKind.u64.max = 18446744073709551615 := rfl;unfold U64;rw [h1,h2] at h;omega
theorem wrap_u64 (a : Int) : U64 (IntKind.u64.wrap a) := by unfold U64; rw [IntKind.wrap_u64]; omega
theorem zci {c : Prop}[Decidable c]{a b : Int}(ha : c → U64 a)(hb : ¬ c → U64 b) : U64 (if c then a else b) := by
 by_cases h : c
 ·rw [if_pos h]; exact ha h
 ·rw [if_neg h]; exact hb h
theorem zqd {a : Int}(y : Int)(ha : U64 a) : U64 (a / 2 ^ y.toNat) := by
 unfold U64 at *;have h1 : (0 : Int) < 2 ^ y.toNat := Int.pow_pos (by omega);exact ⟨Int.ediv_nonneg ha.1 (by omega),Int.lt_of_le_of_lt (Int.ediv_le_self _ ha.1) ha.2⟩
theorem zqe {a b : Int}(ha : U64 a)(hb : U64 b)(h0 : b ≠ 0) : U64 (a.tmod b) := by
 unfold U64 at *;rw [Int.tmod_eq_emod_of_nonneg ha.1];have := Int.emod_lt_of_pos a (show 0 < b by omega);exact ⟨Int.emod_nonneg _ h0,by omega⟩
theorem zaA : U64 0 := by unfold U64; omega
theorem zfV {op a b y x : Int}(ha : U64 a)(hb : U64 b) : U64 (doV op a b y x) :=
 zci (fun _ => wrap_u64 _) fun _ => zci (fun _ => wrap_u64 _) fun _ => zci (fun _ => wrap_u64 _) fun _ =>
 zci (fun _ => zci (fun _ => zaA) fun _ => wrap_u64 _) fun _ => zci (fun _ => zhd _ _ _) fun _ => zci (fun _ => zhd _ _ _) fun _ =>
 zci (fun _ => wrap_u64 _) fun _ => zci (fun _ => zqd _ ha) fun _ => zci (fun _ => wrap_u64 _) fun _ =>
 zci (fun _ => zci (fun _ => ha) fun h => zqe ha hb h) fun _ => zci (fun _ => zhd _ _ _) fun _ => zci (fun _ => hb) fun _ => wrap_u64 _
theorem zhe {op x a b : Int}(h : zdp op x = true)(ha : U64 a)(hb : U64 b) : U64 (doU op x a b) := zau (zfV (zau ha) (zau hb))
def T3 (lf : Bool)(rt : Bool)(b5 : Nat)(b18 : Nat)(b20 : Nat)(b21 : Nat)(w : World) : Prop :=
 Blk w b18 4 #[.bool lf] ∧ Blk w b20 4 #[.bool rt] ∧ Blk w b21 177 #[.func (.func 114) #[] #[.pointer (some ⟨b5,0,none⟩)]]
theorem T3.of (hE : OpE g op x a b c d lf rt tn sh b5 b6 b7 b8 b9 b15 b17 b18 b19 b20 b21 b22 b23 b24 F W){F1 : Nat → Prop}{p1 : PS}{w1 : World}(h : PG base g F W F1 p1 w1) : T3 lf rt b5 b18 b20 b21 w1 := ⟨(h.blk hE.e18.1 hE.e18.2).1,(h.blk hE.e20.1 hE.e20.2).1,(h.blk hE.e21.1 hE.e21.2).1⟩
def T5 (op : Int)(b : Int)(b6 : Nat)(b7 : Nat)(b9 : Nat)(b15 : Nat)(b22 : Nat)(w : World) : Prop :=
 Blk w b6 30 #[.int .i8 op] ∧ Blk w b22 179 #[.func (.func 116) #[] #[.pointer (some ⟨b15,0,none⟩),.pointer (some ⟨b7,0,none⟩)]] ∧ Blk w b9 3 #[.int .i64 b]
theorem T5.of (hE : OpE g op x a b c d lf rt tn sh b5 b6 b7 b8 b9 b15 b17 b18 b19 b20 b21 b22 b23 b24 F W){F1 : Nat → Prop}{p1 : PS}{w1 : World}(h : PG base g F W F1 p1 w1) : T5 op b b6 b7 b9 b15 b22 w1 := ⟨(h.blk hE.e6.1 hE.e6.2).1,(h.blk hE.e22.1 hE.e22.2).1,(h.blk hE.e9.1 hE.e9.2).1⟩
def T10 (op : Int)(d : Int)(rt : Bool)(b5 : Nat)(b6 : Nat)(b19 : Nat)(b20 : Nat)(b21 : Nat)(w : World) : Prop :=
 Blk w b20 4 #[.bool rt] ∧ Blk w b19 31 #[.int .u64 d] ∧ Blk w b6 30 #[.int .i8 op] ∧ Blk w b21 177 #[.func (.func 114) #[] #[.pointer (some ⟨b5,0,none⟩)]]
theorem T10.of (hE : OpE g op x a b c d lf rt tn sh b5 b6 b7 b8 b9 b15 b17 b18 b19 b20 b21 b22 b23 b24 F W){F1 : Nat → Prop}{p1 : PS}{w1 : World}(h : PG base g F W F1 p1 w1) : T10 op d rt b5 b6 b19 b20 b21 w1 := ⟨(h.blk hE.e20.1 hE.e20.2).1,(h.blk hE.e19.1 hE.e19.2).1,(h.blk hE.e6.1 hE.e6.2).1,(h.blk hE.e21.1 hE.e21.2).1⟩
def T11 (op : Int)(a : Int)(b : Int)(b5 : Nat)(b6 : Nat)(b8 : Nat)(b9 : Nat)(b21 : Nat)(w : World) : Prop :=
 Blk w b8 3 #[.int .i64 a] ∧ Blk w b9 3 #[.int .i64 b] ∧ Blk w b6 30 #[.int .i8 op] ∧ Blk w b21 177 #[.func (.func 114) #[] #[.pointer (some ⟨b5,0,none⟩)]]
theorem T11.of (hE : OpE g op x a b c d lf rt tn sh b5 b6 b7 b8 b9 b15 b17 b18 b19 b20 b21 b22 b23 b24 F W){F1 : Nat → Prop}{p1 : PS}{w1 : World}(h : PG base g F W F1 p1 w1) : T11 op a b b5 b6 b8 b9 b21 w1 := ⟨(h.blk hE.e8.1 hE.e8.2).1,(h.blk hE.e9.1 hE.e9.2).1,(h.blk hE.e6.1 hE.e6.2).1,(h.blk hE.e21.1 hE.e21.2).1⟩
def T12 (op : Int)(a : Int)(b : Int)(b6 : Nat)(b7 : Nat)(b8 : Nat)(b9 : Nat)(b15 : Nat)(b22 : Nat)(w : World) : Prop :=
 Blk w b8 3 #[.int .i64 a] ∧ Blk w b9 3 #[.int .i64 b] ∧ Blk w b6 30 #[.int .i8 op] ∧ Blk w b22 179 #[.func (.func 116) #[] #[.pointer (some ⟨b15,0,none⟩),.pointer (some ⟨b7,0,none⟩)]]
theorem T12.of (hE : OpE g op x a b c d lf rt tn sh b5 b6 b7 b8 b9 b15 b17 b18 b19 b20 b21 b22 b23 b24 F W){F1 : Nat → Prop}{p1 : PS}{w1 : World}(h : PG base g F W F1 p1 w1) : T12 op a b b6 b7 b8 b9 b15 b22 w1 := ⟨(h.blk hE.e8.1 hE.e8.2).1,(h.blk hE.e9.1 hE.e9.2).1,(h.blk hE.e6.1 hE.e6.2).1,(h.blk hE.e22.1 hE.e22.2).1⟩
theorem zqf (hE : OpE g op x a b c d lf rt tn sh b5 b6 b7 b8 b9 b15 b17 b18 b19 b20 b21 b22 b23 b24 F W)(hp : zam W base F g p)(hOk : zdp op x = true)(hUc : U64 c)(hUd : U64 d)(hf : (lf && rt) = false) :
 Calls prog 120 #[.pointer (some ⟨b6,0,none⟩),.pointer (some ⟨b7,0,none⟩),.pointer (some ⟨b17,0,none⟩),.pointer (some ⟨b19,0,none⟩),.pointer (some ⟨b18,0,none⟩),.pointer (some ⟨b20,0,none⟩),.pointer (some ⟨b21,0,none⟩)] W (fun e w' => e = .returned (.tuple #[.int .i64 0,.bool false,.int .i64 0]) ∧ Below W.heap.size W w') := by
 have key : lf = false ∨ lf = true ∧ rt = false := by revert hf; cases lf <;> cases rt <;> simp
 clear hf
 rcases key with rfl | ⟨rfl,rfl⟩
 all_goals
  have HE := Hd hE
  have HP := Hd hp
  have c6 := hE.e6.1.cell 0;have c7 := hE.e7.1.cell 0;have c17 := hE.e17.1.cell 0;have c19 := hE.e19.1.cell 0;simp at c6 c7 c17 c19;obtain ⟨V,hV⟩ : ∃ V,doU op x c d = V := ⟨_,rfl⟩;have HD := Hd (zjN c d W hOk hUd)
  have HUV := Hd (show U64 V by rw [← hV]; exact zhe hOk hUc hUd)
  rw [hV] at HD;try rw [hV] at HR
  clear hE hp hOk hUd hUc hV;go_enter func120,ntmps120;go_wp2_with fail
  refine HD.out.mono ?_;rintro e w1 ⟨rfl,hb⟩;have HP0 := Hd (PG.of_below HP.out hb)
  have HL0 := Hd hb
  clear hb c6 c7 c17 c19;go_upto_region 2 with fail
  first
  | (refine zac (T3 false rt b5 b18 b20 b21) (fun _ => True) [] (by kernel_rfl) ?_
     have HPd := Hd (HP0.out.step ((Below.refl _ _).drew))
     have HL := Hd (HL0.out.trans (((Below.refl _ _).drew).mono HL0.out.size))
     have HT := Hd (T3.of HE.out HPd.out)
     clear HP0 HL0;generalize w1.drew = Wd at HT HPd HL ⊢;refine el false 0 ⟨b18,0,none⟩ (.bool false) underlying4 (fun w hS => (hS.1.1.cell 0)) (bT HT) ?_)
  | (refine zac (T3 true false b5 b18 b20 b21) (fun _ => True) [] (by kernel_rfl) ?_
     have HPd := Hd (HP0.out.step ((Below.refl _ _).drew))
     have HL := Hd (HL0.out.trans (((Below.refl _ _).drew).mono HL0.out.size))
     have HT := Hd (T3.of HE.out HPd.out)
     clear HP0 HL0;generalize w1.drew = Wd at HT HPd HL ⊢;refine el false 0 ⟨b18,0,none⟩ (.bool true) underlying4 (fun w hS => (hS.1.1.cell 0)) (bT HT) ?_)
  first | refine em 1 (.bool false) (bT HT) ?_ | refine em 1 (.bool true) (bT HT) ?_
  first | refine en 2 (bT HT) ?_ | refine el false 2 ⟨b20,0,none⟩ (.bool false) underlying4 (fun w hS => (hS.1.2.1.cell 0)) (bT HT) ?_
  first | refine ep 3 false (.bool false) (bT HT) ?_ | refine ep 3 true (.bool false) (bT HT) ?_
  refine el false 4 ⟨b21,0,none⟩ (.func (.func 114) #[] #[.pointer (some ⟨b5,0,none⟩)]) underlying177 (fun w hS => (hS.1.2.2.cell 0)) (bT HT) ?_;refine em 5 (.int .u64 V) (bT HT) ?_;refine ec 6 (zcU _ _ _) ?_;rintro e w8 ⟨rfl,rfl⟩;have hb8 : Below Wd.heap.size Wd (Wd.alloc (.cells #[.int .u64 V] 31)) := (Below.refl _ _).alloc (ztn _) _;have HBX := Hd (Blk.new Wd 31 #[.int .u64 V])
  replace HPd := Hd (HPd.out.step hb8)
  replace HT := Hd (T3.of HE.out HPd.out)
  replace HL := Hd (HL.out.trans (hb8.mono HL.out.size))
  clear hb8;obtain ⟨bx,hbx⟩ : ∃ b,Wd.heap.size = b := ⟨_,rfl⟩;rw [hbx] at HBX ⊢;clear hbx;generalize Wd.alloc (.cells #[.int .u64 V] 31) = w8 at HT HPd HL HBX ⊢;refine ek (bT HT) ?_;refine ec 7 (zbL _ _) ?_;rintro e w9 ⟨rfl,rfl⟩;refine ek (bT HT) ?_;refine eg 8 (.int .i64 0) (bT HT) ?_;refine eg 9 (.bool false) (bT HT) ?_;refine eg 10 (.int .i64 0) (bT HT) ?_;refine eS 11 (.int .i64 0) (bT HT) ?_;refine eS 12 (.bool false) (bT HT) ?_;refine eS 13 (.int .i64 0) (bT HT) ?_;refine zab (by kernel_rfl) ?_ _;go_wp2;exact bodyPost_ret (v := .tuple #[.int .i64 0,.bool false,.int .i64 0]) (by simp [results,results120,go_sem]) rfl ⟨rfl,HL.out⟩
theorem zof (hE : OpE g op x a b c d lf rt tn sh b5 b6 b7 b8 b9 b15 b17 b18 b19 b20 b21 b22 b23 b24 F W)(hp : zam W base F g p)(hOk : zdp op x = true)(hUc : U64 c)(hUd : U64 d)(hbase : base ≤ W.heap.size)(hr : putR p (zaf (doU op x c d)) = r)(hf : (lf && rt) = true) :
 Calls prog 120 #[.pointer (some ⟨b6,0,none⟩),.pointer (some ⟨b7,0,none⟩),.pointer (some ⟨b17,0,none⟩),.pointer (some ⟨b19,0,none⟩),.pointer (some ⟨b18,0,none⟩),.pointer (some ⟨b20,0,none⟩),.pointer (some ⟨b21,0,none⟩)] W (fun e w' => ∃ n m,e = .returned (.tuple #[.int .i64 n,.bool true,.int .i64 m]) ∧ RR base g F W r n m w') := by
 have HB := Hd hbase
 have HR := Hd hr
 clear hbase hr;obtain rfl : lf = true := by revert hf; cases lf <;> simp
 obtain rfl : rt = true := by revert hf; cases rt <;> simp
 clear hf;have HE := Hd hE
 have HP := Hd hp
 have c6 := hE.e6.1.cell 0;have c7 := hE.e7.1.cell 0;have c17 := hE.e17.1.cell 0;have c19 := hE.e19.1.cell 0;simp at c6 c7 c17 c19;obtain ⟨V,hV⟩ : ∃ V,doU op x c d = V := ⟨_,rfl⟩;have HD := Hd (zjN c d W hOk hUd)
 have HUV := Hd (show U64 V by rw [← hV]; exact zhe hOk hUc hUd)
 rw [hV] at HD;try rw [hV] at HR
 clear hE hp hOk hUd hUc hV;go_enter func120,ntmps120;go_wp2_with fail
 refine HD.out.mono ?_;rintro e w1 ⟨rfl,hb⟩;have HP0 := Hd (PG.of_below HP.out hb)
 have HL0 := Hd hb
 clear hb c6 c7 c17 c19;go_upto_region 2 with fail
 refine zac (T3 true true b5 b18 b20 b21) (fun _ => True) [] (by kernel_rfl) ?_;have HPd := Hd (HP0.out.step ((Below.refl _ _).drew))
 have HL := Hd (HL0.out.trans (((Below.refl _ _).drew).mono HL0.out.size))
 have HT := Hd (T3.of HE.out HPd.out)
 clear HP0 HL0;generalize w1.drew = Wd at HT HPd HL ⊢;refine el false 0 ⟨b18,0,none⟩ (.bool true) underlying4 (fun w hS => (hS.1.1.cell 0)) (bT HT) ?_;refine em 1 (.bool true) (bT HT) ?_;refine el false 2 ⟨b20,0,none⟩ (.bool true) underlying4 (fun w hS => (hS.1.2.1.cell 0)) (bT HT) ?_;refine ep 3 true (.bool true) (bT HT) ?_;refine el false 4 ⟨b21,0,none⟩ (.func (.func 114) #[] #[.pointer (some ⟨b5,0,none⟩)]) underlying177 (fun w hS => (hS.1.2.2.cell 0)) (bT HT) ?_;refine em 5 (.int .u64 V) (bT HT) ?_;refine ec 6 (zcU _ _ _) ?_;rintro e w8 ⟨rfl,rfl⟩;have hb8 : Below Wd.heap.size Wd (Wd.alloc (.cells #[.int .u64 V] 31)) := (Below.refl _ _).alloc (ztn _) _;have HBX := Hd (Blk.new Wd 31 #[.int .u64 V])
 replace HPd := Hd (HPd.out.step hb8)
 replace HT := Hd (T3.of HE.out HPd.out)
 replace HL := Hd (HL.out.trans (hb8.mono HL.out.size))
 clear hb8;obtain ⟨bx,hbx⟩ : ∃ b,Wd.heap.size = b := ⟨_,rfl⟩;rw [hbx] at HBX ⊢;clear hbx;generalize Wd.alloc (.cells #[.int .u64 V] 31) = w8 at HT HPd HL HBX ⊢;refine ek (bT HT) ?_;refine eo 7 fun o K h2 h3 hKK => ?_
 unfold Oper.wp execOp;simp only [h3];go_simp;have H := zei (F := F) _ HUV.out b5 bx w8 HPd.out.pool (zto HB.out HPd.out.size) (HPd.out.blk HE.out.e5.1 HE.out.e5.2).1 HBX.out;rw [HR.out] at H;refine (zcj 115 _ _ (RR base g F W r) zge (H.mono fun e w' q => RR.of (zbT.from HPd.out q))).mono ?_;clear H;rintro e w9 ⟨n,m,rfl,hrr⟩;have HRR := Hd hrr
 obtain ⟨_,_,F9,h9⟩ := hrr;replace HT := Hd (T3.of HE.out h9)
 clear h9 HBX HPd HL;dsimp only;refine hKK _ _ (bT HT) ?_;clear hKK h2 h3 K o;try simp only [pt,pn,sL]
 refine eg 8 (.int .i64 n) (bT HT) ?_;refine eg 9 (.bool true) (bT HT) ?_;refine eg 10 (.int .i64 m) (bT HT) ?_;refine eS 11 (.int .i64 n) (bT HT) ?_;refine eS 12 (.bool true) (bT HT) ?_;refine eS 13 (.int .i64 m) (bT HT) ?_;refine zab (by kernel_rfl) ?_ _;go_wp2;exact bodyPost_ret (v := .tuple #[.int .i64 n,.bool true,.int .i64 m]) (by simp [results,results120,go_sem]) rfl ⟨n,m,rfl,HRR.out⟩
theorem zqg (hE : OpE g op x a b c d lf rt tn sh b5 b6 b7 b8 b9 b15 b17 b18 b19 b20 b21 b22 b23 b24 F W)(hp : zam W base F g p)(hf : (op == 11) = false) :
 Calls prog 124 #[.pointer (some ⟨b6,0,none⟩),.pointer (some ⟨b22,0,none⟩),.pointer (some ⟨b9,0,none⟩)] W (fun e w' => e = .returned (.tuple #[.int .i64 0,.bool false,.int .i64 0]) ∧ Below W.heap.size W w') := by
 skip
 have HE := Hd hE
 have HP := Hd hp
 have HP0 := Hd (PG.refl hp)
 have HL0 := Hd (Below.refl W.heap.size W)
 clear hE hp;go_enter func124,ntmps124;go_upto_region 1 with fail
 refine zac (T5 op b b6 b7 b9 b15 b22) (fun _ => True) [] (by kernel_rfl) ?_;have HPd := Hd (HP0.out.step ((Below.refl _ _).drew))
 have HL := Hd (HL0.out.trans (((Below.refl _ _).drew).mono HL0.out.size))
 have HT := Hd (T5.of HE.out HPd.out)
 clear HP0 HL0;generalize W.drew = Wd at HT HPd HL ⊢;refine el false 0 ⟨b6,0,none⟩ (.int .i8 op) underlying30 (fun w hS => (hS.1.1.cell 0)) (bT HT) ?_;refine eg 1 (.bool false) (bT HT) ?_;refine el false 2 ⟨b22,0,none⟩ (.func (.func 116) #[] #[.pointer (some ⟨b15,0,none⟩),.pointer (some ⟨b7,0,none⟩)]) underlying179 (fun w hS => (hS.1.2.1.cell 0)) (bT HT) ?_;refine el false 3 ⟨b9,0,none⟩ (.int .i64 b) underlying3 (fun w hS => (hS.1.2.2.cell 0)) (bT HT) ?_;refine ec 4 (zgT _ _ _ _) ?_;rintro e w8 ⟨rfl,rfl⟩;have hb8 : Below Wd.heap.size Wd (Wd.alloc (.cells #[.int .i64 b] 3)) := (Below.refl _ _).alloc (ztn _) _;have HBX := Hd (Blk.new Wd 3 #[.int .i64 b])
 replace HPd := Hd (HPd.out.step hb8)
 replace HT := Hd (T5.of HE.out HPd.out)
 replace HL := Hd (HL.out.trans (hb8.mono HL.out.size))
 clear hb8;obtain ⟨bx,hbx⟩ : ∃ b,Wd.heap.size = b := ⟨_,rfl⟩;rw [hbx] at HBX ⊢;clear hbx;generalize Wd.alloc (.cells #[.int .i64 b] 3) = w8 at HT HPd HL HBX ⊢;refine ek (bT HT) ?_;refine ec 5 (zbL _ _) ?_;rintro e w9 ⟨rfl,rfl⟩;refine ek (bT HT) ?_;refine eg 6 (.int .i64 0) (bT HT) ?_;refine eg 7 (.bool false) (bT HT) ?_;refine eg 8 (.int .i64 0) (bT HT) ?_;refine eS 9 (.int .i64 0) (bT HT) ?_;refine eS 10 (.bool false) (bT HT) ?_;refine eS 11 (.int .i64 0) (bT HT) ?_;refine zab (by kernel_rfl) ?_ _;go_wp2;exact bodyPost_ret (v := .tuple #[.int .i64 0,.bool false,.int .i64 0]) (by simp [results,results124,go_sem]) rfl ⟨rfl,HL.out⟩
theorem zog (hE : OpE g op x a b c d lf rt tn sh b5 b6 b7 b8 b9 b15 b17 b18 b19 b20 b21 b22 b23 b24 F W)(hp : zam W base F g p)(hbase : base ≤ W.heap.size)(hx : x = 8 ∨ x = 16 ∨ x = 32 ∨ x = 64)(hn : I64 b)(hr : zbw f p x b = some r)(hf : (op == 11) = true) :
 Calls prog 124 #[.pointer (some ⟨b6,0,none⟩),.pointer (some ⟨b22,0,none⟩),.pointer (some ⟨b9,0,none⟩)] W (fun e w' => ∃ n m,e = .returned (.tuple #[.int .i64 n,.bool true,.int .i64 m]) ∧ RR base g F W r n m w') := by
 have HB := Hd hbase
 have HR := Hd hr
 have HX := Hd hx
 have HN := Hd hn
 clear hx hn;clear hbase hr
 skip
 have HE := Hd hE
 have HP := Hd hp
 have HP0 := Hd (PG.refl hp)
 have HL0 := Hd (Below.refl W.heap.size W)
 clear hE hp;go_enter func124,ntmps124;go_upto_region 1 with fail
 refine zac (T5 op b b6 b7 b9 b15 b22) (fun _ => True) [] (by kernel_rfl) ?_;have HPd := Hd (HP0.out.step ((Below.refl _ _).drew))
 have HL := Hd (HL0.out.trans (((Below.refl _ _).drew).mono HL0.out.size))
 have HT := Hd (T5.of HE.out HPd.out)
 clear HP0 HL0;generalize W.drew = Wd at HT HPd HL ⊢;refine el false 0 ⟨b6,0,none⟩ (.int .i8 op) underlying30 (fun w hS => (hS.1.1.cell 0)) (bT HT) ?_;refine eg 1 (.bool true) (bT HT) ?_;refine el false 2 ⟨b22,0,none⟩ (.func (.func 116) #[] #[.pointer (some ⟨b15,0,none⟩),.pointer (some ⟨b7,0,none⟩)]) underlying179 (fun w hS => (hS.1.2.1.cell 0)) (bT HT) ?_;refine el false 3 ⟨b9,0,none⟩ (.int .i64 b) underlying3 (fun w hS => (hS.1.2.2.cell 0)) (bT HT) ?_;refine ec 4 (zgT _ _ _ _) ?_;rintro e w8 ⟨rfl,rfl⟩;have hb8 : Below Wd.heap.size Wd (Wd.alloc (.cells #[.int .i64 b] 3)) := (Below.refl _ _).alloc (ztn _) _;have HBX := Hd (Blk.new Wd 3 #[.int .i64 b])
 replace HPd := Hd (HPd.out.step hb8)
 replace HT := Hd (T5.of HE.out HPd.out)
 replace HL := Hd (HL.out.trans (hb8.mono HL.out.size))
 clear hb8;obtain ⟨bx,hbx⟩ : ∃ b,Wd.heap.size = b := ⟨_,rfl⟩;rw [hbx] at HBX ⊢;clear hbx;generalize Wd.alloc (.cells #[.int .i64 b] 3) = w8 at HT HPd HL HBX ⊢;refine ek (bT HT) ?_;refine eo 5 fun o K h2 h3 hKK => ?_
 unfold Oper.wp execOp;simp only [h3];go_simp;have H := ziS (F := F) x _ HX.out HN.out f r HR.out b15 b7 bx w8 HPd.out.pool (zto HB.out HPd.out.size) (HPd.out.blk HE.out.e15.1 HE.out.e15.2).1 (HPd.out.blk HE.out.e7.1 HE.out.e7.2).1 HBX.out;refine (zcj 117 _ _ (RR base g F W r) zgf (H.mono fun e w' q => RR.of (zbT.from HPd.out q))).mono ?_;clear H;rintro e w9 ⟨n,m,rfl,hrr⟩;have HRR := Hd hrr
 obtain ⟨_,_,F9,h9⟩ := hrr;replace HT := Hd (T5.of HE.out h9)
 clear h9 HBX HPd HL;dsimp only;refine hKK _ _ (bT HT) ?_;clear hKK h2 h3 K o;try simp only [pt,pn,sL]
 refine eg 6 (.int .i64 n) (bT HT) ?_;refine eg 7 (.bool true) (bT HT) ?_;refine eg 8 (.int .i64 m) (bT HT) ?_;refine eS 9 (.int .i64 n) (bT HT) ?_;refine eS 10 (.bool true) (bT HT) ?_;refine eS 11 (.int .i64 m) (bT HT) ?_;refine zab (by kernel_rfl) ?_ _;go_wp2;exact bodyPost_ret (v := .tuple #[.int .i64 n,.bool true,.int .i64 m]) (by simp [results,results124,go_sem]) rfl ⟨n,m,rfl,HRR.out⟩
theorem zoh (hE : OpE g op x a b c d lf rt tn sh b5 b6 b7 b8 b9 b15 b17 b18 b19 b20 b21 b22 b23 b24 F W)(hp : zam W base F g p)(hf : (rt && ziu op d) = false) :
 Calls prog 133 #[.pointer (some ⟨b20,0,none⟩),.pointer (some ⟨b19,0,none⟩),.pointer (some ⟨b6,0,none⟩),.pointer (some ⟨b21,0,none⟩)] W (fun e w' => e = .returned (.tuple #[.int .i64 0,.bool false,.int .i64 0]) ∧ Below W.heap.size W w') := by
 have key : rt = false ∨ rt = true ∧ (d == 0) = false ∨ rt = true ∧ (d == 0) = true ∧ (op == 2) = false ∧ (op == 5) = false ∧ (op == 3) = false := by revert hf; unfold ziu; cases rt <;> cases (d == 0) <;> cases (op == 2) <;> cases (op == 5) <;> cases (op == 3) <;> simp
 clear hf
 rcases key with rfl | ⟨rfl,hd⟩ | ⟨rfl,hd,h2,h5,h3⟩
 all_goals
  have HE := Hd hE
  have HP := Hd hp
  have HP0 := Hd (PG.refl hp)
  have HL0 := Hd (Below.refl W.heap.size W)
  clear hE hp;go_enter func133,ntmps133;go_upto_region 1 with fail
  first
  | (refine zac (T10 op d false b5 b6 b19 b20 b21) (fun _ => True) [] (by kernel_rfl) ?_
     have HPd := Hd (HP0.out.step ((Below.refl _ _).drew))
     have HL := Hd (HL0.out.trans (((Below.refl _ _).drew).mono HL0.out.size))
     have HT := Hd (T10.of HE.out HPd.out)
     clear HP0 HL0;generalize W.drew = Wd at HT HPd HL ⊢;refine el false 0 ⟨b20,0,none⟩ (.bool false) underlying4 (fun w hS => (hS.1.1.cell 0)) (bT HT) ?_)
  | (refine zac (T10 op d true b5 b6 b19 b20 b21) (fun _ => True) [] (by kernel_rfl) ?_
     have HPd := Hd (HP0.out.step ((Below.refl _ _).drew))
     have HL := Hd (HL0.out.trans (((Below.refl _ _).drew).mono HL0.out.size))
     have HT := Hd (T10.of HE.out HPd.out)
     clear HP0 HL0;generalize W.drew = Wd at HT HPd HL ⊢;refine el false 0 ⟨b20,0,none⟩ (.bool true) underlying4 (fun w hS => (hS.1.1.cell 0)) (bT HT) ?_)
  first | refine em 1 (.bool false) (bT HT) ?_ | refine em 1 (.bool true) (bT HT) ?_
  first | refine en 2 (bT HT) ?_ | refine el false 2 ⟨b19,0,none⟩ (.int .u64 d) underlying31 (fun w hS => (hS.1.2.1.cell 0)) (bT HT) ?_
  first | refine en 3 (bT HT) ?_ | refine eg 3 (.bool false) (bT HT) ?_ | refine eg 3 (.bool true) (bT HT) ?_
  first | refine ep 4 false (.bool false) (bT HT) ?_ | refine ep 4 true (.bool false) (bT HT) ?_ | refine ep 4 true (.bool true) (bT HT) ?_
  first | refine em 5 (.bool false) (bT HT) ?_ | refine em 5 (.bool true) (bT HT) ?_
  first | refine en 6 (bT HT) ?_ | refine el false 6 ⟨b6,0,none⟩ (.int .i8 op) underlying30 (fun w hS => (hS.1.2.2.1.cell 0)) (bT HT) ?_
  first | refine en 7 (bT HT) ?_ | refine eg 7 (.bool false) (bT HT) ?_
  first | refine en 8 (bT HT) ?_ | refine em 8 (.bool false) (bT HT) ?_
  first | refine en 9 (bT HT) ?_ | refine el false 9 ⟨b6,0,none⟩ (.int .i8 op) underlying30 (fun w hS => (hS.1.2.2.1.cell 0)) (bT HT) ?_
  first | refine en 10 (bT HT) ?_ | refine eg 10 (.bool false) (bT HT) ?_
  first | refine en 11 (bT HT) ?_ | refine ep 11 false (.bool false) (bT HT) ?_
  first | refine en 12 (bT HT) ?_ | refine em 12 (.bool false) (bT HT) ?_
  first | refine en 13 (bT HT) ?_ | refine el false 13 ⟨b6,0,none⟩ (.int .i8 op) underlying30 (fun w hS => (hS.1.2.2.1.cell 0)) (bT HT) ?_
  first | refine en 14 (bT HT) ?_ | refine eg 14 (.bool false) (bT HT) ?_
  first | refine en 15 (bT HT) ?_ | refine ep 15 false (.bool false) (bT HT) ?_
  first | refine ep 16 false (.bool false) (bT HT) ?_ | refine ep 16 true (.bool false) (bT HT) ?_
  refine el false 17 ⟨b21,0,none⟩ (.func (.func 114) #[] #[.pointer (some ⟨b5,0,none⟩)]) underlying177 (fun w hS => (hS.1.2.2.2.cell 0)) (bT HT) ?_;refine ec 18 (zcU _ _ _) ?_;rintro e w8 ⟨rfl,rfl⟩;have hb8 : Below Wd.heap.size Wd (Wd.alloc (.cells #[.int .u64 0] 31)) := (Below.refl _ _).alloc (ztn _) _;have HBX := Hd (Blk.new Wd 31 #[.int .u64 0])
  replace HPd := Hd (HPd.out.step hb8)
  replace HT := Hd (T10.of HE.out HPd.out)
  replace HL := Hd (HL.out.trans (hb8.mono HL.out.size))
  clear hb8;obtain ⟨bx,hbx⟩ : ∃ b,Wd.heap.size = b := ⟨_,rfl⟩;rw [hbx] at HBX ⊢;clear hbx;generalize Wd.alloc (.cells #[.int .u64 0] 31) = w8 at HT HPd HL HBX ⊢;refine ek (bT HT) ?_;refine ec 19 (zbL _ _) ?_;rintro e w9 ⟨rfl,rfl⟩;refine ek (bT HT) ?_;refine eg 20 (.int .i64 0) (bT HT) ?_;refine eg 21 (.bool false) (bT HT) ?_;refine eg 22 (.int .i64 0) (bT HT) ?_;refine eS 23 (.int .i64 0) (bT HT) ?_;refine eS 24 (.bool false) (bT HT) ?_;refine eS 25 (.int .i64 0) (bT HT) ?_;refine zab (by kernel_rfl) ?_ _;go_wp2;exact bodyPost_ret (v := .tuple #[.int .i64 0,.bool false,.int .i64 0]) (by simp [results,results133,go_sem]) rfl ⟨rfl,HL.out⟩
theorem zl5 (hE : OpE g op x a b c d lf rt tn sh b5 b6 b7 b8 b9 b15 b17 b18 b19 b20 b21 b22 b23 b24 F W)(hp : zam W base F g p)(hbase : base ≤ W.heap.size)(hr : putR p (zaf 0) = r)(hf : (rt && ziu op d) = true) :
 Calls prog 133 #[.pointer (some ⟨b20,0,none⟩),.pointer (some ⟨b19,0,none⟩),.pointer (some ⟨b6,0,none⟩),.pointer (some ⟨b21,0,none⟩)] W (fun e w' => ∃ n m,e = .returned (.tuple #[.int .i64 n,.bool true,.int .i64 m]) ∧ RR base g F W r n m w') := by
 have HB := Hd hbase
 have HR := Hd hr
 clear hbase hr;have key : rt = true ∧ (d == 0) = true ∧ ((op == 2) = false ∧ (op == 5) = false ∧ (op == 3) = true ∨ (op == 2) = false ∧ (op == 5) = true ∨ (op == 2) = true) := by revert hf; unfold ziu; cases rt <;> cases (d == 0) <;> cases (op == 2) <;> cases (op == 5) <;> cases (op == 3) <;> simp
 clear hf
 rcases key with ⟨rfl,hd,⟨h2,h5,h3⟩ | ⟨h2,h5⟩ | h2⟩
 all_goals
  have HE := Hd hE
  have HP := Hd hp
  have HP0 := Hd (PG.refl hp)
  have HL0 := Hd (Below.refl W.heap.size W)
  clear hE hp;go_enter func133,ntmps133;go_upto_region 1 with fail
  refine zac (T10 op d true b5 b6 b19 b20 b21) (fun _ => True) [] (by kernel_rfl) ?_;have HPd := Hd (HP0.out.step ((Below.refl _ _).drew))
  have HL := Hd (HL0.out.trans (((Below.refl _ _).drew).mono HL0.out.size))
  have HT := Hd (T10.of HE.out HPd.out)
  clear HP0 HL0;generalize W.drew = Wd at HT HPd HL ⊢;refine el false 0 ⟨b20,0,none⟩ (.bool true) underlying4 (fun w hS => (hS.1.1.cell 0)) (bT HT) ?_;refine em 1 (.bool true) (bT HT) ?_;refine el false 2 ⟨b19,0,none⟩ (.int .u64 d) underlying31 (fun w hS => (hS.1.2.1.cell 0)) (bT HT) ?_;refine eg 3 (.bool true) (bT HT) ?_;refine ep 4 true (.bool true) (bT HT) ?_;refine em 5 (.bool true) (bT HT) ?_;refine el false 6 ⟨b6,0,none⟩ (.int .i8 op) underlying30 (fun w hS => (hS.1.2.2.1.cell 0)) (bT HT) ?_
  first | refine eg 7 (.bool false) (bT HT) ?_ | refine eg 7 (.bool true) (bT HT) ?_
  first | refine em 8 (.bool false) (bT HT) ?_ | refine em 8 (.bool true) (bT HT) ?_
  first | refine el false 9 ⟨b6,0,none⟩ (.int .i8 op) underlying30 (fun w hS => (hS.1.2.2.1.cell 0)) (bT HT) ?_ | refine en 9 (bT HT) ?_
  first | refine eg 10 (.bool false) (bT HT) ?_ | refine eg 10 (.bool true) (bT HT) ?_ | refine en 10 (bT HT) ?_
  first | refine ep 11 false (.bool false) (bT HT) ?_ | refine ep 11 false (.bool true) (bT HT) ?_ | refine ep 11 true (.bool true) (bT HT) ?_
  first | refine em 12 (.bool false) (bT HT) ?_ | refine em 12 (.bool true) (bT HT) ?_
  first | refine el false 13 ⟨b6,0,none⟩ (.int .i8 op) underlying30 (fun w hS => (hS.1.2.2.1.cell 0)) (bT HT) ?_ | refine en 13 (bT HT) ?_
  first | refine eg 14 (.bool true) (bT HT) ?_ | refine en 14 (bT HT) ?_
  first | refine ep 15 false (.bool true) (bT HT) ?_ | refine ep 15 true (.bool true) (bT HT) ?_
  refine ep 16 true (.bool true) (bT HT) ?_;refine el false 17 ⟨b21,0,none⟩ (.func (.func 114) #[] #[.pointer (some ⟨b5,0,none⟩)]) underlying177 (fun w hS => (hS.1.2.2.2.cell 0)) (bT HT) ?_;refine ec 18 (zcU _ _ _) ?_;rintro e w8 ⟨rfl,rfl⟩;have hb8 : Below Wd.heap.size Wd (Wd.alloc (.cells #[.int .u64 0] 31)) := (Below.refl _ _).alloc (ztn _) _;have HBX := Hd (Blk.new Wd 31 #[.int .u64 0])
  replace HPd := Hd (HPd.out.step hb8)
  replace HT := Hd (T10.of HE.out HPd.out)
  replace HL := Hd (HL.out.trans (hb8.mono HL.out.size))
  clear hb8;obtain ⟨bx,hbx⟩ : ∃ b,Wd.heap.size = b := ⟨_,rfl⟩;rw [hbx] at HBX ⊢;clear hbx;generalize Wd.alloc (.cells #[.int .u64 0] 31) = w8 at HT HPd HL HBX ⊢;refine ek (bT HT) ?_;refine eo 19 fun o K h2 h3 hKK => ?_
  unfold Oper.wp execOp;simp only [h3];go_simp;have H := zei (F := F) _ zaA b5 bx w8 HPd.out.pool (zto HB.out HPd.out.size) (HPd.out.blk HE.out.e5.1 HE.out.e5.2).1 HBX.out;rw [HR.out] at H;refine (zcj 115 _ _ (RR base g F W r) zge (H.mono fun e w' q => RR.of (zbT.from HPd.out q))).mono ?_;clear H;rintro e w9 ⟨n,m,rfl,hrr⟩;have HRR := Hd hrr
  obtain ⟨_,_,F9,h9⟩ := hrr;replace HT := Hd (T10.of HE.out h9)
  clear h9 HBX HPd HL;dsimp only;refine hKK _ _ (bT HT) ?_;clear hKK h2 h3 K o;try simp only [pt,pn,sL]
  refine eg 20 (.int .i64 n) (bT HT) ?_;refine eg 21 (.bool true) (bT HT) ?_;refine eg 22 (.int .i64 m) (bT HT) ?_;refine eS 23 (.int .i64 n) (bT HT) ?_;refine eS 24 (.bool true) (bT HT) ?_;refine eS 25 (.int .i64 m) (bT HT) ?_;refine zab (by kernel_rfl) ?_ _;go_wp2;exact bodyPost_ret (v := .tuple #[.int .i64 n,.bool true,.int .i64 m]) (by simp [results,results133,go_sem]) rfl ⟨n,m,rfl,HRR.out⟩
theorem zoi (hE : OpE g op x a b c d lf rt tn sh b5 b6 b7 b8 b9 b15 b17 b18 b19 b20 b21 b22 b23 b24 F W)(hp : zam W base F g p)(hf : (a == b && (op == 1 || op == 10)) = false) :
 Calls prog 134 #[.pointer (some ⟨b8,0,none⟩),.pointer (some ⟨b9,0,none⟩),.pointer (some ⟨b6,0,none⟩),.pointer (some ⟨b21,0,none⟩)] W (fun e w' => e = .returned (.tuple #[.int .i64 0,.bool false,.int .i64 0]) ∧ Below W.heap.size W w') := by
 have key : (a == b) = false ∨ (a == b) = true ∧ (op == 1) = false ∧ (op == 10) = false := by revert hf; cases (a == b) <;> cases (op == 1) <;> cases (op == 10) <;> simp
 clear hf
 rcases key with hab | ⟨hab,h1,h2⟩
 all_goals
  have HE := Hd hE
  have HP := Hd hp
  have HP0 := Hd (PG.refl hp)
  have HL0 := Hd (Below.refl W.heap.size W)
  clear hE hp;go_enter func134,ntmps134;go_upto_region 1 with fail
  refine zac (T11 op a b b5 b6 b8 b9 b21) (fun _ => True) [] (by kernel_rfl) ?_;have HPd := Hd (HP0.out.step ((Below.refl _ _).drew))
  have HL := Hd (HL0.out.trans (((Below.refl _ _).drew).mono HL0.out.size))
  have HT := Hd (T11.of HE.out HPd.out)
  clear HP0 HL0;generalize W.drew = Wd at HT HPd HL ⊢;refine el false 0 ⟨b8,0,none⟩ (.int .i64 a) underlying3 (fun w hS => (hS.1.1.cell 0)) (bT HT) ?_;refine el false 1 ⟨b9,0,none⟩ (.int .i64 b) underlying3 (fun w hS => (hS.1.2.1.cell 0)) (bT HT) ?_
  first | refine eg 2 (.bool false) (bT HT) ?_ | refine eg 2 (.bool true) (bT HT) ?_
  first | refine em 3 (.bool false) (bT HT) ?_ | refine em 3 (.bool true) (bT HT) ?_
  first | refine en 4 (bT HT) ?_ | refine el false 4 ⟨b6,0,none⟩ (.int .i8 op) underlying30 (fun w hS => (hS.1.2.2.1.cell 0)) (bT HT) ?_
  first | refine en 5 (bT HT) ?_ | refine eg 5 (.bool false) (bT HT) ?_
  first | refine en 6 (bT HT) ?_ | refine em 6 (.bool false) (bT HT) ?_
  first | refine en 7 (bT HT) ?_ | refine el false 7 ⟨b6,0,none⟩ (.int .i8 op) underlying30 (fun w hS => (hS.1.2.2.1.cell 0)) (bT HT) ?_
  first | refine en 8 (bT HT) ?_ | refine eg 8 (.bool false) (bT HT) ?_
  first | refine en 9 (bT HT) ?_ | refine ep 9 false (.bool false) (bT HT) ?_
  first | refine ep 10 false (.bool false) (bT HT) ?_ | refine ep 10 true (.bool false) (bT HT) ?_
  refine el false 11 ⟨b21,0,none⟩ (.func (.func 114) #[] #[.pointer (some ⟨b5,0,none⟩)]) underlying177 (fun w hS => (hS.1.2.2.2.cell 0)) (bT HT) ?_;refine ec 12 (zcU _ _ _) ?_;rintro e w8 ⟨rfl,rfl⟩;have hb8 : Below Wd.heap.size Wd (Wd.alloc (.cells #[.int .u64 0] 31)) := (Below.refl _ _).alloc (ztn _) _;have HBX := Hd (Blk.new Wd 31 #[.int .u64 0])
  replace HPd := Hd (HPd.out.step hb8)
  replace HT := Hd (T11.of HE.out HPd.out)
  replace HL := Hd (HL.out.trans (hb8.mono HL.out.size))
  clear hb8;obtain ⟨bx,hbx⟩ : ∃ b,Wd.heap.size = b := ⟨_,rfl⟩;rw [hbx] at HBX ⊢;clear hbx;generalize Wd.alloc (.cells #[.int .u64 0] 31) = w8 at HT HPd HL HBX ⊢;refine ek (bT HT) ?_;refine ec 13 (zbL _ _) ?_;rintro e w9 ⟨rfl,rfl⟩;refine ek (bT HT) ?_;refine eg 14 (.int .i64 0) (bT HT) ?_;refine eg 15 (.bool false) (bT HT) ?_;refine eg 16 (.int .i64 0) (bT HT) ?_;refine eS 17 (.int .i64 0) (bT HT) ?_;refine eS 18 (.bool false) (bT HT) ?_;refine eS 19 (.int .i64 0) (bT HT) ?_;refine zab (by kernel_rfl) ?_ _;go_wp2;exact bodyPost_ret (v := .tuple #[.int .i64 0,.bool false,.int .i64 0]) (by simp [results,results134,go_sem]) rfl ⟨rfl,HL.out⟩
theorem zl6 (hE : OpE g op x a b c d lf rt tn sh b5 b6 b7 b8 b9 b15 b17 b18 b19 b20 b21 b22 b23 b24 F W)(hp : zam W base F g p)(hbase : base ≤ W.heap.size)(hr : putR p (zaf 0) = r)(hf : (a == b && (op == 1 || op == 10)) = true) :
 Calls prog 134 #[.pointer (some ⟨b8,0,none⟩),.pointer (some ⟨b9,0,none⟩),.pointer (some ⟨b6,0,none⟩),.pointer (some ⟨b21,0,none⟩)] W (fun e w' => ∃ n m,e = .returned (.tuple #[.int .i64 n,.bool true,.int .i64 m]) ∧ RR base g F W r n m w') := by
 have HB := Hd hbase
 have HR := Hd hr
 clear hbase hr;have key : (a == b) = true ∧ ((op == 1) = false ∧ (op == 10) = true ∨ (op == 1) = true) := by revert hf; cases (a == b) <;> cases (op == 1) <;> cases (op == 10) <;> simp
 clear hf
 rcases key with ⟨hab,⟨h1,h2⟩ | h1⟩
 all_goals
  have HE := Hd hE
  have HP := Hd hp
  have HP0 := Hd (PG.refl hp)
  have HL0 := Hd (Below.refl W.heap.size W)
  clear hE hp;go_enter func134,ntmps134;go_upto_region 1 with fail
  refine zac (T11 op a b b5 b6 b8 b9 b21) (fun _ => True) [] (by kernel_rfl) ?_;have HPd := Hd (HP0.out.step ((Below.refl _ _).drew))
  have HL := Hd (HL0.out.trans (((Below.refl _ _).drew).mono HL0.out.size))
  have HT := Hd (T11.of HE.out HPd.out)
  clear HP0 HL0;generalize W.drew = Wd at HT HPd HL ⊢;refine el false 0 ⟨b8,0,none⟩ (.int .i64 a) underlying3 (fun w hS => (hS.1.1.cell 0)) (bT HT) ?_;refine el false 1 ⟨b9,0,none⟩ (.int .i64 b) underlying3 (fun w hS => (hS.1.2.1.cell 0)) (bT HT) ?_;refine eg 2 (.bool true) (bT HT) ?_;refine em 3 (.bool true) (bT HT) ?_;refine el false 4 ⟨b6,0,none⟩ (.int .i8 op) underlying30 (fun w hS => (hS.1.2.2.1.cell 0)) (bT HT) ?_
  first | refine eg 5 (.bool false) (bT HT) ?_ | refine eg 5 (.bool true) (bT HT) ?_
  first | refine em 6 (.bool false) (bT HT) ?_ | refine em 6 (.bool true) (bT HT) ?_
  first | refine el false 7 ⟨b6,0,none⟩ (.int .i8 op) underlying30 (fun w hS => (hS.1.2.2.1.cell 0)) (bT HT) ?_ | refine en 7 (bT HT) ?_
  first | refine eg 8 (.bool true) (bT HT) ?_ | refine en 8 (bT HT) ?_
  first | refine ep 9 false (.bool true) (bT HT) ?_ | refine ep 9 true (.bool true) (bT HT) ?_
  refine ep 10 true (.bool true) (bT HT) ?_;refine el false 11 ⟨b21,0,none⟩ (.func (.func 114) #[] #[.pointer (some ⟨b5,0,none⟩)]) underlying177 (fun w hS => (hS.1.2.2.2.cell 0)) (bT HT) ?_;refine ec 12 (zcU _ _ _) ?_;rintro e w8 ⟨rfl,rfl⟩;have hb8 : Below Wd.heap.size Wd (Wd.alloc (.cells #[.int .u64 0] 31)) := (Below.refl _ _).alloc (ztn _) _;have HBX := Hd (Blk.new Wd 31 #[.int .u64 0])
  replace HPd := Hd (HPd.out.step hb8)
  replace HT := Hd (T11.of HE.out HPd.out)
  replace HL := Hd (HL.out.trans (hb8.mono HL.out.size))
  clear hb8;obtain ⟨bx,hbx⟩ : ∃ b,Wd.heap.size = b := ⟨_,rfl⟩;rw [hbx] at HBX ⊢;clear hbx;generalize Wd.alloc (.cells #[.int .u64 0] 31) = w8 at HT HPd HL HBX ⊢;refine ek (bT HT) ?_;refine eo 13 fun o K h2 h3 hKK => ?_
  unfold Oper.wp execOp;simp only [h3];go_simp;have H := zei (F := F) _ zaA b5 bx w8 HPd.out.pool (zto HB.out HPd.out.size) (HPd.out.blk HE.out.e5.1 HE.out.e5.2).1 HBX.out;rw [HR.out] at H;refine (zcj 115 _ _ (RR base g F W r) zge (H.mono fun e w' q => RR.of (zbT.from HPd.out q))).mono ?_;clear H;rintro e w9 ⟨n,m,rfl,hrr⟩;have HRR := Hd hrr
  obtain ⟨_,_,F9,h9⟩ := hrr;replace HT := Hd (T11.of HE.out h9)
  clear h9 HBX HPd HL;dsimp only;refine hKK _ _ (bT HT) ?_;clear hKK h2 h3 K o;try simp only [pt,pn,sL]
  refine eg 14 (.int .i64 n) (bT HT) ?_;refine eg 15 (.bool true) (bT HT) ?_;refine eg 16 (.int .i64 m) (bT HT) ?_;refine eS 17 (.int .i64 n) (bT HT) ?_;refine eS 18 (.bool true) (bT HT) ?_;refine eS 19 (.int .i64 m) (bT HT) ?_;refine zab (by kernel_rfl) ?_ _;go_wp2;exact bodyPost_ret (v := .tuple #[.int .i64 n,.bool true,.int .i64 m]) (by simp [results,results134,go_sem]) rfl ⟨n,m,rfl,HRR.out⟩
theorem zoj (hE : OpE g op x a b c d lf rt tn sh b5 b6 b7 b8 b9 b15 b17 b18 b19 b20 b21 b22 b23 b24 F W)(hp : zam W base F g p)(hf : (a == b && (op == 5 || op == 4)) = false) :
 Calls prog 135 #[.pointer (some ⟨b8,0,none⟩),.pointer (some ⟨b9,0,none⟩),.pointer (some ⟨b6,0,none⟩),.pointer (some ⟨b22,0,none⟩)] W (fun e w' => e = .returned (.tuple #[.int .i64 0,.bool false,.int .i64 0]) ∧ Below W.heap.size W w') := by
 have key : (a == b) = false ∨ (a == b) = true ∧ (op == 5) = false ∧ (op == 4) = false := by revert hf; cases (a == b) <;> cases (op == 5) <;> cases (op == 4) <;> simp
 clear hf
 rcases key with hab | ⟨hab,h1,h2⟩
 all_goals
  have HE := Hd hE
  have HP := Hd hp
  have HP0 := Hd (PG.refl hp)
  have HL0 := Hd (Below.refl W.heap.size W)
  clear hE hp;go_enter func135,ntmps135;go_upto_region 1 with fail
  refine zac (T12 op a b b6 b7 b8 b9 b15 b22) (fun _ => True) [] (by kernel_rfl) ?_;have HPd := Hd (HP0.out.step ((Below.refl _ _).drew))
  have HL := Hd (HL0.out.trans (((Below.refl _ _).drew).mono HL0.out.size))
  have HT := Hd (T12.of HE.out HPd.out)
  clear HP0 HL0;generalize W.drew = Wd at HT HPd HL ⊢;refine el false 0 ⟨b8,0,none⟩ (.int .i64 a) underlying3 (fun w hS => (hS.1.1.cell 0)) (bT HT) ?_;refine el false 1 ⟨b9,0,none⟩ (.int .i64 b) underlying3 (fun w hS => (hS.1.2.1.cell 0)) (bT HT) ?_
  first | refine eg 2 (.bool false) (bT HT) ?_ | refine eg 2 (.bool true) (bT HT) ?_
  first | refine em 3 (.bool false) (bT HT) ?_ | refine em 3 (.bool true) (bT HT) ?_
  first | refine en 4 (bT HT) ?_ | refine el false 4 ⟨b6,0,none⟩ (.int .i8 op) underlying30 (fun w hS => (hS.1.2.2.1.cell 0)) (bT HT) ?_
  first | refine en 5 (bT HT) ?_ | refine eg 5 (.bool false) (bT HT) ?_
  first | refine en 6 (bT HT) ?_ | refine em 6 (.bool false) (bT HT) ?_
  first | refine en 7 (bT HT) ?_ | refine el false 7 ⟨b6,0,none⟩ (.int .i8 op) underlying30 (fun w hS => (hS.1.2.2.1.cell 0)) (bT HT) ?_
  first | refine en 8 (bT HT) ?_ | refine eg 8 (.bool false) (bT HT) ?_
  first | refine en 9 (bT HT) ?_ | refine ep 9 false (.bool false) (bT HT) ?_
  first | refine ep 10 false (.bool false) (bT HT) ?_ | refine ep 10 true (.bool false) (bT HT) ?_
  refine el false 11 ⟨b22,0,none⟩ (.func (.func 116) #[] #[.pointer (some ⟨b15,0,none⟩),.pointer (some ⟨b7,0,none⟩)]) underlying179 (fun w hS => (hS.1.2.2.2.cell 0)) (bT HT) ?_;refine el false 12 ⟨b8,0,none⟩ (.int .i64 a) underlying3 (fun w hS => (hS.1.1.cell 0)) (bT HT) ?_;refine ec 13 (zgT _ _ _ _) ?_;rintro e w8 ⟨rfl,rfl⟩;have hb8 : Below Wd.heap.size Wd (Wd.alloc (.cells #[.int .i64 a] 3)) := (Below.refl _ _).alloc (ztn _) _;have HBX := Hd (Blk.new Wd 3 #[.int .i64 a])
  replace HPd := Hd (HPd.out.step hb8)
  replace HT := Hd (T12.of HE.out HPd.out)
  replace HL := Hd (HL.out.trans (hb8.mono HL.out.size))
  clear hb8;obtain ⟨bx,hbx⟩ : ∃ b,Wd.heap.size = b := ⟨_,rfl⟩;rw [hbx] at HBX ⊢;clear hbx;generalize Wd.alloc (.cells #[.int .i64 a] 3) = w8 at HT HPd HL HBX ⊢;refine ek (bT HT) ?_;refine ec 14 (zbL _ _) ?_;rintro e w9 ⟨rfl,rfl⟩;refine ek (bT HT) ?_;refine eg 15 (.int .i64 0) (bT HT) ?_;refine eg 16 (.bool false) (bT HT) ?_;refine eg 17 (.int .i64 0) (bT HT) ?_;refine eS 18 (.int .i64 0) (bT HT) ?_;refine eS 19 (.bool false) (bT HT) ?_;refine eS 20 (.int .i64 0) (bT HT) ?_;refine zab (by kernel_rfl) ?_ _;go_wp2;exact bodyPost_ret (v := .tuple #[.int .i64 0,.bool false,.int .i64 0]) (by simp [results,results135,go_sem]) rfl ⟨rfl,HL.out⟩
theorem zl7 (hE : OpE g op x a b c d lf rt tn sh b5 b6 b7 b8 b9 b15 b17 b18 b19 b20 b21 b22 b23 b24 F W)(hp : zam W base F g p)(hbase : base ≤ W.heap.size)(hx : x = 8 ∨ x = 16 ∨ x = 32 ∨ x = 64)(hn : I64 a)(hr : zbw f p x a = some r)(hf : (a == b && (op == 5 || op == 4)) = true) :
 Calls prog 135 #[.pointer (some ⟨b8,0,none⟩),.pointer (some ⟨b9,0,none⟩),.pointer (some ⟨b6,0,none⟩),.pointer (some ⟨b22,0,none⟩)] W (fun e w' => ∃ n m,e = .returned (.tuple #[.int .i64 n,.bool true,.int .i64 m]) ∧ RR base g F W r n m w') := by
 have HB := Hd hbase
 have HR := Hd hr
 have HX := Hd hx
 have HN := Hd hn
 clear hbase hr;have key : (a == b) = true ∧ ((op == 5) = false ∧ (op == 4) = true ∨ (op == 5) = true) := by revert hf; cases (a == b) <;> cases (op == 5) <;> cases (op == 4) <;> simp
 clear hf
 rcases key with ⟨hab,⟨h1,h2⟩ | h1⟩
 all_goals
  have HE := Hd hE
  have HP := Hd hp
  have HP0 := Hd (PG.refl hp)
  have HL0 := Hd (Below.refl W.heap.size W)
  clear hE hp;go_enter func135,ntmps135;go_upto_region 1 with fail
  refine zac (T12 op a b b6 b7 b8 b9 b15 b22) (fun _ => True) [] (by kernel_rfl) ?_;have HPd := Hd (HP0.out.step ((Below.refl _ _).drew))
  have HL := Hd (HL0.out.trans (((Below.refl _ _).drew).mono HL0.out.size))
  have HT := Hd (T12.of HE.out HPd.out)
  clear HP0 HL0;generalize W.drew = Wd at HT HPd HL ⊢;refine el false 0 ⟨b8,0,none⟩ (.int .i64 a) underlying3 (fun w hS => (hS.1.1.cell 0)) (bT HT) ?_;refine el false 1 ⟨b9,0,none⟩ (.int .i64 b) underlying3 (fun w hS => (hS.1.2.1.cell 0)) (bT HT) ?_;refine eg 2 (.bool true) (bT HT) ?_;refine em 3 (.bool true) (bT HT) ?_;refine el false 4 ⟨b6,0,none⟩ (.int .i8 op) underlying30 (fun w hS => (hS.1.2.2.1.cell 0)) (bT HT) ?_
  first | refine eg 5 (.bool false) (bT HT) ?_ | refine eg 5 (.bool true) (bT HT) ?_
  first | refine em 6 (.bool false) (bT HT) ?_ | refine em 6 (.bool true) (bT HT) ?_
  first | refine el false 7 ⟨b6,0,none⟩ (.int .i8 op) underlying30 (fun w hS => (hS.1.2.2.1.cell 0)) (bT HT) ?_ | refine en 7 (bT HT) ?_
  first | refine eg 8 (.bool true) (bT HT) ?_ | refine en 8 (bT HT) ?_
  first | refine ep 9 false (.bool true) (bT HT) ?_ | refine ep 9 true (.bool true) (bT HT) ?_
  refine ep 10 true (.bool true) (bT HT) ?_;refine el false 11 ⟨b22,0,none⟩ (.func (.func 116) #[] #[.pointer (some ⟨b15,0,none⟩),.pointer (some ⟨b7,0,none⟩)]) underlying179 (fun w hS => (hS.1.2.2.2.cell 0)) (bT HT) ?_;refine el false 12 ⟨b8,0,none⟩ (.int .i64 a) underlying3 (fun w hS => (hS.1.1.cell 0)) (bT HT) ?_;refine ec 13 (zgT _ _ _ _) ?_;rintro e w8 ⟨rfl,rfl⟩;have hb8 : Below Wd.heap.size Wd (Wd.alloc (.cells #[.int .i64 a] 3)) := (Below.refl _ _).alloc (ztn _) _;have HBX := Hd (Blk.new Wd 3 #[.int .i64 a])
  replace HPd := Hd (HPd.out.step hb8)
  replace HT := Hd (T12.of HE.out HPd.out)
  replace HL := Hd (HL.out.trans (hb8.mono HL.out.size))
  clear hb8;obtain ⟨bx,hbx⟩ : ∃ b,Wd.heap.size = b := ⟨_,rfl⟩;rw [hbx] at HBX ⊢;clear hbx;generalize Wd.alloc (.cells #[.int .i64 a] 3) = w8 at HT HPd HL HBX ⊢;refine ek (bT HT) ?_;refine eo 14 fun o K h2 h3 hKK => ?_
  unfold Oper.wp execOp;simp only [h3];go_simp;have H := ziS (F := F) x _ HX.out HN.out f r HR.out b15 b7 bx w8 HPd.out.pool (zto HB.out HPd.out.size) (HPd.out.blk HE.out.e15.1 HE.out.e15.2).1 (HPd.out.blk HE.out.e7.1 HE.out.e7.2).1 HBX.out;refine (zcj 117 _ _ (RR base g F W r) zgf (H.mono fun e w' q => RR.of (zbT.from HPd.out q))).mono ?_;clear H;rintro e w9 ⟨n,m,rfl,hrr⟩;have HRR := Hd hrr
  obtain ⟨_,_,F9,h9⟩ := hrr;replace HT := Hd (T12.of HE.out h9)
  clear h9 HBX HPd HL;dsimp only;refine hKK _ _ (bT HT) ?_;clear hKK h2 h3 K o;try simp only [pt,pn,sL]
  refine eg 15 (.int .i64 n) (bT HT) ?_;refine eg 16 (.bool true) (bT HT) ?_;refine eg 17 (.int .i64 m) (bT HT) ?_;refine eS 18 (.int .i64 n) (bT HT) ?_;refine eS 19 (.bool true) (bT HT) ?_;refine eS 20 (.int .i64 m) (bT HT) ?_;refine zab (by kernel_rfl) ?_ _;go_wp2;exact bodyPost_ret (v := .tuple #[.int .i64 n,.bool true,.int .i64 m]) (by simp [results,results135,go_sem]) rfl ⟨n,m,rfl,HRR.out⟩
end
end Go.Proofs.YtepagfkkjlbipaaGreat
