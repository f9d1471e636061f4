/-
  Parts of the proof of SymbcRuns. Conditions: those written in each statement.
-/
import Derived.Test.YtepagfkkjlbipaaGreatKah
import Derived.Lib.QuietBelow
set_option linter.unusedVariables false
set_option linter.unusedSimpArgs false
set_option maxHeartbeats 64000000
set_option maxRecDepth 100000
namespace Go.Proofs.YtepagfkkjlbipaaGreat
open Go.RowKit
open Tryz
section
open Go.Maps (Keyed)
theorem infT : (prog.info? 3).map (fun i => (i.zero,i.size,i.bytes)) = some (some (.int .i64 0),1,8) := by kernel_rfl
theorem znE : zdt prog 3 (Value.int .i64) I64 where
 keyed := Go.Maps.int_keyed underlying3
 reads := fun x h => ⟨_,Go.Maps.keyOf_int_mk underlying3 (wf_i64 h)⟩
 inj := fun x y _ _ h => by injection h
theorem zpt : ∀ w : World,(zeroValue 4).run prog w = .ok (.bool false) w := fun w => by kernel_rfl
section
variable {κ : Type}[DecidableEq κ]{P : Program}{k : TypeId}{enc : κ → Value}{V : κ → Prop}{w : World}{b n : Nat}{f : κ → Option Value}
theorem zhf {ops : Array Oper}{rest : List Oper}{o : Oper}{a : Act}{Q : Exit → Act → World → Prop}(hg : o.guard = none)(m y v : Operand)(t : TypeId)(hop : o.op = Op.insert t m y v)
  (e : TypeId) (E : zdt P k enc V) (ht : P.underlying t = some (.map k e)) (h : zaR P k enc V w b n f) (hn : n < maxLen) (x : κ) (hx : V x) (val : Value) (hm : a.eval m = .map (some b)) (hy : a.eval y = enc x) (hv : a.eval v = val)
  (hK : ∀ w',zaR P k enc V w' b (n + 1) (zeC f x val) → w.grownBy w' (some b) → wpList P ops Q rest (a.put o.dst undef) w') : wpList P ops Q (o :: rest) a w := by
 refine wpList_plain hg fun K' hK' => ?_
 obtain ⟨w',hrun,r1,r2⟩ := h.update E ht hn x hx val;unfold Oper.wp;simp [execOp,hop,hm,hy,hv,hrun,Result.andThen];exact hK' _ _ (hK w' r1 r2)
end
def zhU (l : List ID)(k : Nat) : Int → Option Value := fun v => if zmp l k v then some (.bool true) else none
def znF (l : List ID)(k : Nat)(x : ID) : Int → Option Value := fun v => if (zmp l k v || (zgM x && (v == (k : Int) + 1))) then some (.bool true) else none
theorem zma (l : List ID)(v : Int) : zhU l 0 v = zeC (fun _ => none) 0 (.bool true) v := by
 unfold zhU zmp zeC
 by_cases h : v = 0 <;> simp [h]
theorem zqj {l : List ID}{k : Nat}{x : ID}(h : zgM x = false)(v : Int) : znF l k x v = zhU l k v := by
 unfold znF zhU;rw [h];simp
theorem zhg {l : List ID}{k : Nat}{x : ID}(h : zgM x = true)(v : Int) : znF l k x v = zeC (zhU l k) ((k : Int) + 1) (.bool true) v := by
 unfold znF zhU zeC;rw [h]
 by_cases e : v = (k : Int) + 1 <;> simp [e]
theorem zhh {l : List ID}{k : Nat}{x : ID}(hx : l[k]? = some x)(h : zcE k x = false)(v : Int) : zhU l (k + 1) v = znF l k x v := by
 unfold zhU znF;rw [zh4 hx];unfold znG;rw [h];simp
theorem zft {l : List ID}{k : Nat}{x : ID}(hx : l[k]? = some x)(h : zcE k x = true)(v : Int) : zhU l (k + 1) v = zeC (znF l k x) (zdE k x) (.bool true) v := by
 unfold zhU znF zeC;rw [zh4 hx];unfold znG;rw [h]
 by_cases e : v = zdE k x
 ·subst e; simp
 ·simp [e]
theorem zhV (l : List ID)(i : Nat) : (zhU l l.length (i : Int)).getD (.bool false) = .bool (za3 l i) := by
 unfold zhU za3
 cases zmp l l.length (i : Int) <;> rfl
theorem zfX {n : Nat}{i : Nat}{x : ID}(h : zdI n i x = true)(ht : zcE i x = true) : 0 ≤ zdE i x ∧ zdE i x < n := by
 unfold zdI at h;rw [ht] at h;simp only [ztG,Bool.not_not,ztr] at h;have := zbm.1 h.2;omega
structure EnF (c : Int)(A : Option Addr)(n cap : Nat)(l : List ID)(w W : World) : Prop where
 box0 : W.cell? ⟨w.heap.size,0,none⟩ = some (.int .i64 c)
 box1 : W.cell? ⟨w.heap.size,1,none⟩ = some (.slice A n cap)
 ins : zcJ W w.heap.size A n l
 below : Below w.heap.size w W
 lt : w.heap.size < W.heap.size
section
variable {c : Int}{A : Option Addr}{n cap : Nat}{l : List ID}{w W V : World}
theorem EnF.grown (h : EnF c A n cap l w W){row : Option Nat}(hg : W.grownBy V row)(hr : ∀ g,row = some g → w.heap.size + 1 ≤ g) : EnF c A n cap l w V := by
 have hb := hg.block w.heap.size h.lt (fun e => by have := hr _ e.symm; omega);exact ⟨(World.cell?_of_block (a := ⟨w.heap.size,0,none⟩) hb).trans h.box0,(World.cell?_of_block (a := ⟨w.heap.size,1,none⟩) hb).trans h.box1,⟨h.ins.1,h.ins.2.1,h.ins.2.2.grown hg h.below.size (fun g e => by have := hr g e; omega)⟩,h.below.grown hg h.below.size (fun g e => by have := hr g e; omega),zty h.lt hg.size⟩
theorem EnF.step (h : EnF c A n cap l w W)(hb : Below W.heap.size W V) : EnF c A n cap l w V := h.grown (za4 hb none) (fun g e => by cases e)
theorem EnF.new (hh : zcJ w w.heap.size A n l) : EnF c A n cap l w (w.alloc (.cells #[.int .i64 c,.slice A n cap] 24)) :=
 ⟨(Blk.new w 24 #[.int .i64 c,.slice A n cap]).cell 0,(Blk.new w 24 #[.int .i64 c,.slice A n cap]).cell 1,hh.alloc (ztn _) _,(Below.refl _ _).alloc (ztn _) _,by simp⟩
end
def pr0 (p : Int × Int) : BD × Value := (⟨p.1,p.2,[]⟩,.slice none 0 0)
def zhW (q : List (Int × Int)) : List Value := (q.map pr0).flatMap bkC
theorem zmb (q : List (BD × Value)) : (q.flatMap bkC).length = q.length * 3 := by
 induction q with
 | nil => rfl
 | cons x t ih => rw [zuf,List.length_append,ih]; simp [bkC]; omega
theorem zfu (q : List (Int × Int))(f t : Int) : zhW (q ++ [(f,t)]) = zhW q ++ [.int .i64 f,.int .i64 t,.slice none 0 0] := by
 unfold zhW;rw [List.map_append,List.flatMap_append]
 rfl
theorem zd3 (q : List (Int × Int)) : (zhW q).length = q.length * 3 := by unfold zhW; rw [zmb,List.length_map]
theorem zfv {q : List (Int × Int)}(hq : 0 < q.length)(t : Int) : (zhW q).set ((q.length - 1) * 3 + 1) (.int .i64 t) = zhW (zqp q t) := by
 rcases List.eq_nil_or_concat q with h | ⟨r,⟨f,s⟩,h⟩
 ·subst h; simp at hq
 ·rw [List.concat_eq_append] at h
  subst h;rw [zfw,zfu,zfu,List.length_append,show r.length + [(f,s)].length - 1 = r.length by simp,List.set_append_right _ _ (by rw [zd3]; omega),zd3,show r.length * 3 + 1 - r.length * 3 = 1 by omega]
  rfl
theorem zom {q : List (Int × Int)}(hq : 0 < q.length)(t : Int) : (zqp q t).length = q.length := by
 unfold zqp;simp;omega
theorem zfY {B : Nat → Bool}(k : Nat)(hq : 0 < (zbU B k).length) : (zcS B (k + 1)).length = (zbU B k).length := by rw [zcB,zom hq]
theorem zpu {B : Nat → Bool}(k : Nat)(hq : 0 < (zbU B k).length) : ofT B k = (zbU B k).length - 1 := by unfold ofT; rw [zfY k hq]
def ofC (B : Nat → Bool)(n k : Nat) : List Value := (List.range n).map fun i => .int .i64 (if i < k then (ofT B i : Int) else 0)
theorem zon (B : Nat → Bool)(n : Nat) : (madeCells (Value.int .i64 0).cells (n * 1)).toList = ofC B n 0 := by
 rw [Nat.mul_one];show (madeCells #[Value.int .i64 0] n).toList = _
 rw [toList_madeCells_one];unfold ofC;refine List.ext_getElem (by simp) fun i h1 h2 => ?_
 simp
theorem zmc {B : Nat → Bool}{n k : Nat}(hk : k < n) : (ofC B n k).set k (.int .i64 (ofT B k : Int)) = ofC B n (k + 1) := by
 unfold ofC;refine List.ext_getElem (by simp) fun i h1 h2 => ?_
 rw [List.getElem_set]
 split
 ·rename_i e
  subst e;simp
 ·rename_i e
  simp only [List.getElem_map,List.getElem_range]
  by_cases h : i < k
  ·rw [if_pos h,if_pos (by omega)]
  ·rw [if_neg h,if_neg (by omega)]
theorem zrA {B : Nat → Bool}{n i : Nat}(hi : i < n) : (ofC B n n)[i]? = some (.int .i64 (ofT B i : Int)) := by
 unfold ofC;rw [ztw,zug hi];simp [hi]
theorem zs4 {B : Nat → Bool}(h0 : B 0 = true)(i : Nat) : ofT B i ≤ i := by
 have := (zcs h0 (i + 1) (by omega)).le;unfold ofT;omega
/-! ### the blocks, whole -/
def zaV (B : Nat → Bool)(b i : Nat)(x : ID) : List Int := (if zcE i x then [(ofT B (zdE i x).toNat : Int)] else []) ++ (if x.kind = 4 ∨ x.kind = 6 then [] else [(b : Int) + 1])
def zq6 (l : List ID)(b : Nat)(p : Int × Int) : BD := ⟨p.1,p.2,match l[(p.2 - 1).toNat]? with
 | some x => zaV (za3 l) b (p.2 - 1).toNat x
 | none => []⟩
def zeX (l : List ID) : List BD := (zcS (za3 l) l.length).mapIdx (zq6 l)
theorem zhi (l : List ID) : (zeX l).length = (zcS (za3 l) l.length).length := by unfold zeX; rw [List.length_mapIdx]
theorem ziJ {l : List ID}{b : Nat}{p : Int × Int}(h : (zcS (za3 l) l.length)[b]? = some p) : (zeX l)[b]? = some (zq6 l b p) := by
 unfold zeX;rw [List.getElem?_mapIdx,h]
 rfl
theorem ziK {l : List ID}{b i : Nat}{f : Int}{x : ID}(hx : l[i]? = some x) : zq6 l b (f,(i : Int) + 1) = ⟨f,(i : Int) + 1,zaV (za3 l) b i x⟩ := by
 unfold zq6;dsimp only;rw [show ((i : Int) + 1 - 1).toNat = i by omega,hx]
theorem zoo (B : Nat → Bool)(b i : Nat)(x : ID) : (zaV B b i x).length ≤ 2 := by
 unfold zaV;rw [List.length_append]
 split <;> split <;> simp
theorem zop {B : Nat → Bool}(h0 : B 0 = true){n b i : Nat}{x : ID}(hb : b < 1000)(hn : n < 1000)(ht : zcE i x = true → 0 ≤ zdE i x ∧ zdE i x < n) : ∀ y ∈ zaV B b i x,I64 y := by
 intro y hy;unfold zaV at hy;unfold I64
 rcases List.mem_append.1 hy with h | h
 ·split at h
  ·rename_i q
   have := ht q;have h2 := zs4 h0 (zdE i x).toNat;simp at h;omega
  ·simp at h
 ·split at h
  ·simp at h
  ·simp at h
   omega
theorem zgI {q1 R : List (BD × Value)}{x : BD}{s v : Value} : ((q1 ++ (x,s) :: R).flatMap bkC).set (q1.length * 3 + 2) v = (q1 ++ (x,v) :: R).flatMap bkC := by
 rw [List.flatMap_append,List.flatMap_append,List.set_append_right _ _ (by rw [zmb]; omega),zmb,show q1.length * 3 + 2 - q1.length * 3 = 2 by omega]
 rfl
theorem zcI {q1 R : List (BD × Value)}{x : BD}{s : Value}(j : Nat)(u : Value)(h : (bkC (x,s))[j]? = some u) : ((q1 ++ (x,s) :: R).flatMap bkC)[q1.length * 3 + j]? = some u :=
 zfC bkC 3 _ (fun z _ => rfl) q1.length j (x,s) u (by simp) h
theorem zjF {l : List ID}{x : BD}(h : x ∈ zeX l) : ∃ b p,(zcS (za3 l) l.length)[b]? = some p ∧ (zeX l)[b]? = some x ∧ x = zq6 l b p := by
 obtain ⟨b,hb,rfl⟩ := zue h;have hb2 : b < (zcS (za3 l) l.length).length := by rw [← zhi]; exact hb
 have hx := ziJ (ztq hb2);refine ⟨b,_,ztq hb2,ztq hb,?_⟩;rw [ztq hb] at hx;exact Option.some.inj hx
theorem ziL {l : List ID}(h1 : 0 < l.length)(hn : l.length ≤ 64)(hok : ∀ (j : Nat) (x : ID),l[j]? = some x → zdI l.length j x = true) : ∀ x ∈ zeX l,x.wf ∧ (∀ y ∈ x.next,I64 y) ∧ x.next.length ≤ 2 := by
 intro x hx;obtain ⟨b,p,hp,_,rfl⟩ := zjF hx;have I := zcs (zbo l) l.length h1;have hlt := I.lt b p hp;have hle := I.le;have hb := (ztt.1 hp).1;have hw : I64 p.1 ∧ I64 p.2 := by unfold I64; omega
 unfold zq6;refine ⟨hw,?_⟩;dsimp only
 cases hx : l[(p.2 - 1).toNat]? with
 | none => exact ⟨fun y hy => by simp at hy,by simp⟩
 | some x => exact ⟨zop (n := l.length) (zbo l) (by omega) (by omega) (fun ht => zfX (hok _ x hx) ht),zoo _ _ _ _⟩
def ziM (c : Int)(l : List ID) : List BD := if (zdj c l).2 = 0 then zeX l else []
def RnP (c : Int)(l : List ID)(w : World)(e : Ending)(w' : World) : Prop :=
 ∃ A cap,e = .returned (.tuple #[.slice A (ziM c l).length cap,.int .i64 (zdj c l).2]) ∧ (ziM c l).length ≤ cap ∧ zlf w' (fun k => k < w.heap.size) A (ziM c l).length (ziM c l) ∧ Below w.heap.size w w'
theorem zpv {c : Int}{l : List ID}{w w' : World}{er : Int}(he : (zdj c l).2 = er)(h : er ≠ 0)(hb : Below w.heap.size w w') : RnP c l w (.returned (.tuple #[.slice none 0 0,.int .i64 er])) w' := by
 unfold RnP ziM;rw [he,if_neg h];exact ⟨none,0,rfl,ztn _,zlf.nil,hb⟩
def DnP (W : World)(g : Nat)(q : List (BD × Value)) : Prop := ∀ p ∈ q,W.ownsRow (g + 1) 3 1 p.2 p.1.next.length (p.1.next.map (Value.int .i64))
theorem DnP.grown {W V : World}{g : Nat}{q : List (BD × Value)}(h : DnP W g q){row : Option Nat}(hg : W.grownBy V row)(hr : ∀ r,row = some r → r ≤ g ∨ W.heap.size ≤ r) : DnP V g q := fun p hp => (h p hp).kept hg (by
 rcases hv : p.2.ownBlock with _ | r
 ·exact .inl rfl
 ·right
  intro e;have := (zbr.of_own (h p hp)).ge r hv;have := hr r e.symm;omega)
theorem DnP.at_ {W : World}{g : Nat}{q : List (BD × Value)}(h : DnP W g q){A : Option Addr}{cap lo : Nat}{B m : Nat}{l : List BD}(hq : q.map (·.1) = l)(hm : q.length = m)(hr : zbr W B 44 3 (.slice A m cap) m (q.flatMap bkC))
  (hw : ∀ x ∈ l,x.wf ∧ (∀ y ∈ x.next,I64 y) ∧ x.next.length ≤ 2) (hB : lo ≤ B) (hg : lo ≤ g + 1) : zlf W (fun k => k < lo) A m l := by
 obtain ⟨A',c',e,_,hrd⟩ := hr.slice;injection e with e1 _ e2
 subst e1 e2;refine ⟨q,hq,hm,⟨hrd.1,fun hn => ?_⟩,fun p hp => ?_⟩
 ·obtain ⟨ad,e,hb,hc⟩ := hrd.2 hn
  subst e;exact ⟨ad,rfl,hb,fun q => by have := (hr.ge _ rfl).1; omega,hc⟩
 have hx := hw p.1 (by rw [← hq]; exact List.mem_map.2 ⟨p,hp,rfl⟩);obtain ⟨A2,c2,e2,hc2,hR2⟩ := za5.of_own (F := fun k => k < lo) (h p hp) (fun b hb q => by have := (zaQ (h p hp) b hb).1; omega);exact ⟨hx.1,A2,c2,e2,hc2,hR2,hx.2.1,by omega⟩
theorem zhj {W : World}{b b' : Nat}{e e' : TypeId}{s s' n n' c : Nat}{xs ys : List Value}{v : Value}{g : Nat}(h : zbr W b e s (.slice (some ⟨g,0,none⟩) n c) n xs)(h' : zbr W b' e' s' v n' ys)(hne : e ≠ e') : v.ownBlock ≠ some g := by
 intro hv
 rcases h.2 with ⟨q,_⟩ | ⟨g1,cap1,cur1,q1,_,q2,_⟩
 ·simp at q
 ·simp only [Value.slice.injEq,Option.some.injEq,Addr.mk.injEq,and_true,true_and] at q1
  obtain ⟨rfl,rfl⟩ := q1
  rcases h'.2 with ⟨p,_⟩ | ⟨g2,cap2,cur2,p1,_,p2,_⟩
  ·rw [p] at hv; simp [Value.ownBlock] at hv
  ·rw [p1] at hv
   simp [Value.ownBlock] at hv;subst hv;rw [q2] at p2;injection p2 with p2
   injection p2 with _ p2
   exact hne p2
theorem zhX {W : World}{b : Nat}{e : TypeId}{s n : Nat}{xs : List Value}{v : Value}(h : zbr W b e s v n xs){κ : Type}{kt : TypeId}{enc : κ → Value}{V : κ → Prop}{g m : Nat}{f : κ → Option Value}(hm : zaR prog kt enc V W g m f) : v.ownBlock ≠ some g := by
 intro hv
 rcases h.2 with ⟨q,_⟩ | ⟨g1,cap1,cur1,q1,_,q2,_⟩
 ·rw [q] at hv; simp [Value.ownBlock] at hv
 ·rw [q1] at hv
  simp [Value.ownBlock] at hv;subst hv;obtain ⟨es,cl,hb,_⟩ := hm;rw [q2] at hb
  cases hb
theorem zrB : (prog.info? 44).map (fun i => (i.zero,i.size,i.bytes)) = some (some (.agg #[.int .i64 0,.int .i64 0,.slice none 0 0]),3,40) := by kernel_rfl
theorem zhY : (prog.info? 47).map (·.size) = some 9 := by kernel_rfl
theorem zjG (i : Int)(w : World) : (Instr.build 44 #[(0,.int .i64 i)]).run prog w = .ok (.agg #[.int .i64 i,.int .i64 0,.slice none 0 0]) w := run_build w 44 _ _ (by kernel_rfl)
theorem zb6 {q1 R : List (BD × Value)}{f t : Int}{nx : List Int}{s : Value} : (q1 ++ (BD.mk f t [],s) :: R).flatMap bkC = ((q1 ++ [(BD.mk f t nx,s)]) ++ R).flatMap bkC := by
 rw [List.flatMap_append,List.flatMap_append,List.flatMap_append,zuf,zuf,List.flatMap_nil,ztE,List.append_assoc]
 rfl
theorem zeY {W : World}{b s n g : Nat}{e : TypeId}{v : Value}{xs : List Value}(h : W.ownsRow b e s v n xs)(hg : g < b) : v.ownBlock = none ∨ v.ownBlock ≠ some g := by
 right;intro hv;have := (zbr.of_own h).ge g hv;omega
theorem zjH (f t : Int) : ∀ u ∈ [Value.int .i64 f,.int .i64 t,.slice none 0 0],u.oneCell' = true := by
 intro u hu;simp at hu
 rcases hu with rfl | rfl | rfl <;> rfl
end
section
theorem zrC {op x : Int}(a b : Int)(w : World)(h : zdp op x = false) : Calls prog 59 #[.int .i8 op,.int .i8 x,.int .u64 a,.int .u64 b] w fun e w' => e = .returned (.tuple #[.int .u64 0,.int .i64 2]) ∧ w = w' := by
 have h' := zmE h;clear h
 cases h1 : decide (op < 0)
 ·cases h2 : decide (12 < op)
  ·have hl : zcb x = false := by
    simp at h1 h2
    rcases h' with q | q | q
    ·omega
    ·omega
    ·exact q
   clear h';go_enter func59,ntmps59;go_wp2_with fail
   refine (zb2 _ _).mono ?_;rintro e w' ⟨rfl,rfl⟩;rw [hl];go_wp2;go_ret2;exact ⟨rfl,rfl⟩
  ·clear h'
   go_enter func59,ntmps59;go_wp2;go_ret2;exact ⟨rfl,rfl⟩
 ·clear h'
  go_enter func59,ntmps59;go_wp2;go_ret2;exact ⟨rfl,rfl⟩
theorem zmd {op x : Int}(a b : Int)(w : World)(h : zaW op x = false) : Calls prog 65 #[.int .i8 op,.int .i8 x,.int .u64 a,.int .u64 b] w fun e w' => e = .returned (.tuple #[.bool false,.int .i64 2]) ∧ w = w' := by
 have h' := zgD h;clear h
 cases h1 : decide (op < 0)
 ·cases h2 : decide (10 < op)
  ·have hl : zcb x = false := by
    simp at h1 h2
    rcases h' with q | q | q
    ·omega
    ·omega
    ·exact q
   clear h';go_enter func65,ntmps65;go_wp2_with fail
   refine (zb2 _ _).mono ?_;rintro e w' ⟨rfl,rfl⟩;rw [hl];go_wp2;go_ret2;exact ⟨rfl,rfl⟩
  ·clear h'
   go_enter func65,ntmps65;go_wp2;go_ret2;exact ⟨rfl,rfl⟩
 ·clear h'
  go_enter func65,ntmps65;go_wp2;go_ret2;exact ⟨rfl,rfl⟩
end
section
open Go.RowKit Go.Sort
theorem zer {P : Program}{C : World → Prop}{ops : Array Oper}{rest : List Oper}{o : Oper}{a : Act}{Q : Act → Prop}(hw : Region.wanted o (yielded ops a.tmps) = true)(ty : TypeId)(x : Operand)(ho : o.op = .load ty x)
 (ad : Addr) (hx : a.eval x = .pointer (some ad)) (cs : List Value) (d : TypeDesc) (hc : ∀ W,C W → ∀ j u,cs[j]? = some u → W.cell? (ad.add j) = some u)
 (hu : P.underlying ty = some d) (hd : zfT d = true) (hi : (P.info? ty).map (·.size) = some cs.length)
 (h : wpQuiet P ops C Q rest (a.put o.dst (.agg cs.toArray))) : wpQuiet P ops C Q (o :: rest) a := by
 unfold wpQuiet;rw [if_pos hw];refine ⟨.agg cs.toArray,?_,h⟩;intro w hC;unfold Oper.quietAt execOp;simp only [ho,hx,Instr.loadAt,Instr.sureAddr,Sem.run_bind,Sem.run_pure,Result.andThen_ok,zaC (P := P) w ad ty cs d (hc w hC) hu hd hi];exact ⟨rfl,rfl⟩
theorem zgJ {x : ID}(h : x.wf) : (za6 x).wf := by
 have h' := h;unfold ID.wf I8 I64 at h' ⊢;unfold za6 kz
 repeat' split
 all_goals (dsimp only; omega)
def zoq (x : ID) : Bool := decide (x.kind < 0) || (decide (6 < x.kind) || (!eqL x.cells (za6 x).cells || (decide (x.dst < 0) || (decide (10 < x.dst) || (decide (x.src < 0) || (decide (10 < x.src) || (decide (x.off < -32768) || (decide (32768 ≤ x.off) || (decide (x.imm < -2147483648) || decide (2147483648 ≤ x.imm))))))))))
def zor (x : ID) : Bool :=
 if x.kind = 0 then decide (0 ≤ x.op) && (decide (x.op ≤ 12) && ((x.width == 32 || x.width == 64) && decide (x.dst < 10)))
 else if x.kind = 1 then szB x.size && decide (x.dst < 10)
 else if x.kind = 2 then szB x.size
 else if x.kind = 3 then decide (0 ≤ x.op) && decide (x.op ≤ 10)
 else if x.kind = 5 then decide (0 ≤ x.imm) && decide (x.imm < 16)
 else true
theorem zme {x : ID}(h : zp9 x) : za6 x = x := by
 obtain ⟨k,op,wd,sz,br,dst,src,off,imm⟩ := x;unfold zp9 at h;dsimp only at h;unfold za6
 rcases h with ⟨rfl,h⟩ | ⟨rfl,h⟩ | ⟨rfl,h⟩ | ⟨rfl,h⟩ | ⟨rfl,h⟩ | ⟨rfl,h⟩ | ⟨rfl,h⟩
 ·obtain ⟨h1,h2,h3,h4,rfl,rfl,⟨rfl,h5,rfl⟩ | ⟨rfl,rfl,h5⟩⟩ := h
  ·have : (op != 8) = true := by simpa using h5
   simp [this]
  ·by_cases h8 : op = 8
   ·simp [h5 h8,h8]
   ·simp [h8]
 ·obtain ⟨h1,h2,rfl,rfl,rfl,rfl⟩ := h; rfl
 ·obtain ⟨h1,rfl,rfl,rfl,rfl⟩ := h; rfl
 ·obtain ⟨h1,h2,rfl,rfl,⟨rfl,rfl⟩ | ⟨rfl,rfl⟩⟩ := h <;> rfl
 ·obtain ⟨rfl,rfl,rfl,rfl,rfl,rfl,rfl⟩ := h; rfl
 ·obtain ⟨rfl,rfl,rfl,rfl,rfl,rfl,rfl,h1,h2⟩ := h; rfl
 ·obtain ⟨rfl,rfl,rfl,rfl,rfl,rfl,rfl,rfl⟩ := h; rfl
theorem zmf {x : ID}(hx : x.wf) : zoq x = false ↔ (0 ≤ x.kind ∧ x.kind ≤ 6) ∧ x = za6 x ∧ Rng x := by
 unfold zoq Rng;simp only [Bool.or_eq_false_iff,decide_eq_false_iff_not,Bool.not_eq_false',zlL hx (zgJ hx)]
 constructor
 ·rintro ⟨h0,h1,h2,h3⟩
  exact ⟨by omega,h2,by omega⟩
 ·rintro ⟨h1,h2,h3⟩
  exact ⟨by omega,by omega,h2,by omega⟩
theorem zrD {x : ID}(hx : x.wf)(h : zoq x = true) : ze8 x = false := by
 cases hm : ze8 x with
 | false => rfl
 | true =>
  obtain ⟨hr,hk⟩ := (zlK x).1 hm;have : zoq x = false := (zmf hx).2 ⟨by unfold zp9 at hk; omega,(zme hk).symm,hr⟩;rw [this] at h
  cases h
theorem zmg {n : Int} : szB n = true ↔ n = 1 ∨ n = 2 ∨ n = 4 ∨ n = 8 := by
 unfold szB;simp only [ztP,beq_iff_eq];omega
theorem zqk {x : ID}(hx : x.wf)(h : zoq x = false) : ze8 x = zor x := by
 obtain ⟨hk,hf,hr⟩ := (zmf hx).1 h;rw [Bool.eq_iff_iff,zlK];refine (and_iff_right hr).trans ?_;clear hr;have e0 := congrArg ID.op hf;have e1 := congrArg ID.width hf;have e2 := congrArg ID.size hf;have e3 := congrArg ID.byReg hf;have e4 := congrArg ID.dst hf;have e5 := congrArg ID.src hf;have e6 := congrArg ID.off hf;have e7 := congrArg ID.imm hf;clear hf h hx;obtain ⟨k,op,wd,sz,br,dst,src,off,imm⟩ := x;unfold zp9 zor;unfold za6 kz at e0 e1 e2 e3 e4 e5 e6 e7;dsimp only at *;have hk7 : k = 0 ∨ k = 1 ∨ k = 2 ∨ k = 3 ∨ k = 4 ∨ k = 5 ∨ k = 6 := by omega
 rcases hk7 with rfl | rfl | rfl | rfl | rfl | rfl | rfl
 ·by_cases h8 : op = 8
  ·cases br <;> simp [h8] at e0 e1 e2 e3 e4 e5 e6 e7 ⊢ <;> first | done | (simp [*]; done) | (simp [*]; omega) | omega
  ·cases br <;> simp [h8] at e0 e1 e2 e3 e4 e5 e6 e7 ⊢ <;> first | done | (simp [*]; done) | (simp [*]; omega) | omega
 ·cases br <;> simp [zmg] at e0 e1 e2 e3 e4 e5 e6 e7 ⊢ <;> simp [*]
 ·cases br <;> simp [zmg] at e0 e1 e2 e3 e4 e5 e6 e7 ⊢ <;> simp [*]
 ·cases br <;> simp at e0 e1 e2 e3 e4 e5 e6 e7 ⊢ <;> simp [*]
 ·cases br <;> simp at e0 e1 e2 e3 e4 e5 e6 e7 ⊢ <;> simp [*]
 ·cases br <;> simp at e0 e1 e2 e3 e4 e5 e6 e7 ⊢ <;> first | done | (simp [*]; done) | (simp [*]; omega) | omega
 ·cases br <;> simp at e0 e1 e2 e3 e4 e5 e6 e7 ⊢ <;> simp [*]
theorem zos (x : ID)(w : World)(hx : x.wf) : Calls prog 54 #[.agg x.cells.toArray] w (zp7 (ze8 x) w) := by
 have hne := zr7 hx (zgJ hx);obtain ⟨r,hR⟩ : ∃ r,za6 x = r := ⟨_,rfl⟩;obtain ⟨q,hQ⟩ : ∃ q,(!eqL x.cells (za6 x).cells) = q := ⟨_,rfl⟩;have HFB := Hd (fun W => by
  have := zkN x W;unfold zcZ at this;rw [hR] at this;exact this : ∀ W,Calls prog 93 #[.agg x.cells.toArray] W fun e w' => e = .returned (.agg r.cells.toArray) ∧ Below W.heap.size W w')
 rw [hQ,hR] at hne;have HNE2 := Hd hne
 have HNO := Hd (fun h => zrD hx h : zoq x = true → ze8 x = false)
 have HYES := Hd (fun h => zqk hx h : zoq x = false → ze8 x = zor x)
 have HQ := Hd hQ
 have hrl : r.cells.length = 9 := rfl;have hxl : x.cells.length = 9 := rfl;clear hne hR hQ hx;obtain ⟨W,hW⟩ : ∃ W,w.alloc (.cells x.cells.toArray 47) = W := ⟨_,rfl⟩;have HBX := Hd (show Blk W w.heap.size 47 x.cells.toArray by rw [← hW]; exact Blk.new w _ _)
 have HBW := Hd (show Below w.heap.size w W by rw [← hW]; exact (Below.refl _ _).alloc (ztn _) _)
 have HLC := Hd (fun (W' : World) (h : ∃ p : Regrown,W' = grow (redrawn W p.d) p.os) => (by
  obtain ⟨p,rfl⟩ := h;exact fun j u hu => cell_regrown (zak HBX.out j u hu) p.d p.os : ∀ j u,x.cells[j]? = some u → W'.cell? ((⟨w.heap.size,0,none⟩ : Addr).add j) = some u))
 obtain ⟨k,e0⟩ : ∃ v,x.kind = v := ⟨_,rfl⟩;have c0 : ∀ (d : Nat) (os : Array Obj),(grow (redrawn W d) os).cell? ⟨w.heap.size,0,none⟩ = some (.int .i8 k) := by rw [← e0]; exact fun d os => cell_regrown (HBX.out.cell 0) d os
 have E0 := Hd e0
 clear e0;obtain ⟨op,e1⟩ : ∃ v,x.op = v := ⟨_,rfl⟩;have c1 : ∀ (d : Nat) (os : Array Obj),(grow (redrawn W d) os).cell? ⟨w.heap.size,1,none⟩ = some (.int .i8 op) := by rw [← e1]; exact fun d os => cell_regrown (HBX.out.cell 1) d os
 have E1 := Hd e1
 clear e1;obtain ⟨wd,e2⟩ : ∃ v,x.width = v := ⟨_,rfl⟩;have c2 : ∀ (d : Nat) (os : Array Obj),(grow (redrawn W d) os).cell? ⟨w.heap.size,2,none⟩ = some (.int .i8 wd) := by rw [← e2]; exact fun d os => cell_regrown (HBX.out.cell 2) d os
 have E2 := Hd e2
 clear e2;obtain ⟨sz,e3⟩ : ∃ v,x.size = v := ⟨_,rfl⟩;have c3 : ∀ (d : Nat) (os : Array Obj),(grow (redrawn W d) os).cell? ⟨w.heap.size,3,none⟩ = some (.int .i8 sz) := by rw [← e3]; exact fun d os => cell_regrown (HBX.out.cell 3) d os
 have E3 := Hd e3
 clear e3;obtain ⟨dst,e5⟩ : ∃ v,x.dst = v := ⟨_,rfl⟩;have c5 : ∀ (d : Nat) (os : Array Obj),(grow (redrawn W d) os).cell? ⟨w.heap.size,5,none⟩ = some (.int .i8 dst) := by rw [← e5]; exact fun d os => cell_regrown (HBX.out.cell 5) d os
 have E5 := Hd e5
 clear e5;obtain ⟨src,e6⟩ : ∃ v,x.src = v := ⟨_,rfl⟩;have c6 : ∀ (d : Nat) (os : Array Obj),(grow (redrawn W d) os).cell? ⟨w.heap.size,6,none⟩ = some (.int .i8 src) := by rw [← e6]; exact fun d os => cell_regrown (HBX.out.cell 6) d os
 have E6 := Hd e6
 clear e6;obtain ⟨off,e7⟩ : ∃ v,x.off = v := ⟨_,rfl⟩;have c7 : ∀ (d : Nat) (os : Array Obj),(grow (redrawn W d) os).cell? ⟨w.heap.size,7,none⟩ = some (.int .i64 off) := by rw [← e7]; exact fun d os => cell_regrown (HBX.out.cell 7) d os
 have E7 := Hd e7
 clear e7;obtain ⟨imm,e8⟩ : ∃ v,x.imm = v := ⟨_,rfl⟩;have c8 : ∀ (d : Nat) (os : Array Obj),(grow (redrawn W d) os).cell? ⟨w.heap.size,8,none⟩ = some (.int .i64 imm) := by rw [← e8]; exact fun d os => cell_regrown (HBX.out.cell 8) d os
 have E8 := Hd e8
 clear e8;go_enter func54,ntmps54;go_wp2_with fail
 cases t0 : decide (k < 0)
 cases t1 : decide (6 < k)
 cases q
 cases t3 : decide (dst < 0)
 cases t4 : decide (10 < dst)
 cases t5 : decide (src < 0)
 cases t6 : decide (10 < src)
 cases t7 : decide (off < -32768)
 cases t8 : decide (32768 ≤ off)
 cases t9 : decide (imm < -2147483648)
 cases t10 : decide (2147483648 ≤ imm)
 ·have hk7 : k = 0 ∨ k = 1 ∨ k = 2 ∨ k = 3 ∨ k = 4 ∨ k = 5 ∨ k = 6 := by simp at t0 t1; omega
  have HK := Hd (HYES.out (by unfold zoq; rw [HQ.out,E0.out,E5.out,E6.out,E7.out,E8.out,t0,t1,t3,t4,t5,t6,t7,t8,t9,t10]; rfl))
  clear HYES HNO HQ
  rcases hk7 with rfl | rfl | rfl | rfl | rfl | rfl | rfl
  all_goals
   have hE := HNE2.out;refine wp_region_quiet_below (by kernel_rfl) (by kernel_rfl) ?_
   repeat (first
    | (refine zer (by rfl) 47 (.tmp 1) rfl ⟨w.heap.size,0,none⟩ (by rfl) x.cells _ HLC.out underlying47 rfl ziZ ?_; go_simp)
    | go_big_quiet_step ((go_at_call 93; exact Calls.regrown_of (HFB.out _))))
   refine wpQuiet_nil ?_
   first
    | (intro wq hwq; obtain ⟨pq,rfl⟩ := hwq)
    | intro pq
   have HBQ := Hd (HBW.out.trans ((below_regrown W pq.d pq.os).mono HBW.out.size))
   go_wp2_with (first
    | (go_at_call 94; refine (zkO _ _).mono ?_; rintro e w' ⟨rfl,rfl⟩; cases hsz : szB sz))
   all_goals
    go_ret;exact ⟨zic (by rw [HK.out]; unfold zor; rw [E0.out,E1.out,E2.out,E3.out,E5.out,E8.out]; first | (simp_all; done) | (simp_all; intros; omega)),HBQ.out⟩
 all_goals
  have hE := HNE2.out;refine wp_region_quiet_below (by kernel_rfl) (by kernel_rfl) ?_
  repeat (first
   | (refine zer (by rfl) 47 (.tmp 1) rfl ⟨w.heap.size,0,none⟩ (by rfl) x.cells _ HLC.out underlying47 rfl ziZ ?_; go_simp)
   | go_big_quiet_step ((go_at_call 93; exact Calls.regrown_of (HFB.out _))))
  refine wpQuiet_nil ?_
  first
   | (intro wq hwq; obtain ⟨pq,rfl⟩ := hwq)
   | intro pq
  have HBQ := Hd (HBW.out.trans ((below_regrown W pq.d pq.os).mono HBW.out.size))
  go_wp2;go_ret;exact ⟨zic (HNO.out (by unfold zoq; first | (rw [HQ.out,E0.out,E5.out,E6.out,E7.out,E8.out,t0,t1,t3,t4,t5,t6,t7,t8,t9,t10]; rfl) | (rw [HQ.out,E0.out,E5.out,E6.out,E7.out,E8.out,t0,t1,t3,t4,t5,t6,t7,t8,t9]; rfl) | (rw [HQ.out,E0.out,E5.out,E6.out,E7.out,E8.out,t0,t1,t3,t4,t5,t6,t7,t8]; rfl) | (rw [HQ.out,E0.out,E5.out,E6.out,E7.out,E8.out,t0,t1,t3,t4,t5,t6,t7]; rfl) | (rw [HQ.out,E0.out,E5.out,E6.out,E7.out,E8.out,t0,t1,t3,t4,t5,t6]; rfl) | (rw [HQ.out,E0.out,E5.out,E6.out,E7.out,E8.out,t0,t1,t3,t4,t5]; rfl) | (rw [HQ.out,E0.out,E5.out,E6.out,E7.out,E8.out,t0,t1,t3,t4]; rfl) | (rw [HQ.out,E0.out,E5.out,E6.out,E7.out,E8.out,t0,t1,t3]; rfl) | (rw [HQ.out,E0.out,E5.out,E6.out,E7.out,E8.out,t0,t1]; rfl) | (rw [HQ.out,E0.out,E5.out,E6.out,E7.out,E8.out,t0]; rfl))).symm,HBQ.out⟩
end
section
def zkF (x : BD)(i : Int) : Bool := decide (x.frm ≤ i) && decide (i < x.upto)
def ofK (l : List BD)(i : Int) : Option Nat := l.findIdx? (fun x => zkF x i)
theorem zpw {l : List BD}{i : Int}{k : Nat}{x : BD}(hx : l[k]? = some x)(hi : zkF x i = true)(h : ∀ j y,j < k → l[j]? = some y → zkF y i = false) : ofK l i = some k := by
 obtain ⟨hk,rfl⟩ := ztt.1 hx;unfold ofK;rw [List.findIdx?_eq_some_iff_getElem];refine ⟨hk,hi,fun j hj => ?_⟩;have := h j _ hj (ztq (by omega));simp [this]
theorem zrE {l : List BD}{i : Int}(h : ∀ j y,j < l.length → l[j]? = some y → zkF y i = false) : ofK l i = none := by
 unfold ofK;rw [List.findIdx?_eq_none_iff];intro x hx;obtain ⟨j,hj,rfl⟩ := zue hx;exact h j _ hj (ztq hj)
def ofN (l : List BD)(i : Int) : Int := match ofK l i with
 | some k => k
 | none => 0
def ofI (l : List BD)(i : Int) : Int := match ofK l i with
 | some k => k
 | none => -1
def ofB (l : List BD)(i : Int) : Bool := (ofK l i).isSome
def OfP (l : List BD)(i : Int)(w : World)(e : Ending)(w' : World) : Prop := e = .returned (.tuple #[.int .i64 (ofN l i),.bool (ofB l i)]) ∧ Below w.heap.size w w'
theorem zql (A : Option Addr)(n c B : Nat)(l : List BD)(i : Int)(w : World)(hh : zje w B A n l)(hm : n < 9223372036854775808) :
  Calls prog 9 #[.slice A n c,.int .i64 i] w fun e w' => e = .returned (.tuple #[.int .i64 (ofN l i),.bool (ofB l i)]) ∧ w = w' := by
 have HH := Hd hh
 have HL := Hd hh.len
 clear hh;go_enter func9,ntmps9;go_wp2;go_loop [6] (fun v => ∃ k : Nat,k ≤ n ∧ v = .int .i64 k ∧ Hid (∀ j y,j < k → l[j]? = some y → zkF y i = false)) (fun v => n - (intOf v).toNat)
 case atStart => exact ⟨0,by omega,rfl,fun j y h => by omega⟩
 case round =>
  obtain ⟨k,hk,rfl,HT⟩ := hrel
  by_cases hlt : k < n
  ·obtain ⟨ad,x,s,rfl,hab,hx,hxw,hns,hcell⟩ := HH.out.at_ hlt
   have HX := Hd hx
   obtain ⟨fr,tt,nx⟩ := x;have e0 := hcell 0 _ rfl;have e1 := hcell 1 _ rfl;obtain ⟨p,hp⟩ : ∃ p,ad.add (k * 3) = p := ⟨_,rfl⟩;rw [hp] at e0 e1;simp [Addr.add] at e0 e1;clear hcell hxw hx hns
   cases h0 : decide (fr ≤ i)
   ·have HN := Hd (show zkF ⟨fr,tt,nx⟩ i = false by unfold zkF; dsimp only; rw [h0]; rfl)
    go_wp2;go_round
    case measure => simp [intOf]; omega
    case rel =>
     refine ⟨k + 1,by omega,by go_num,fun j y hj hy => ?_⟩
     rcases ztH j k with h | h
     ·exact HT.out j y h hy
     ·obtain rfl : j = k := by omega
      rw [HX.out] at hy;exact Option.some.inj hy ▸ HN.out
   ·cases h1 : decide (i < tt)
    ·have HN := Hd (show zkF ⟨fr,tt,nx⟩ i = false by unfold zkF; dsimp only; rw [h1,ztY])
     go_wp2;go_round
     case measure => simp [intOf]; omega
     case rel =>
      refine ⟨k + 1,by omega,by go_num,fun j y hj hy => ?_⟩
      rcases ztH j k with h | h
      ·exact HT.out j y h hy
      ·obtain rfl : j = k := by omega
       rw [HX.out] at hy;exact Option.some.inj hy ▸ HN.out
    ·have HY := Hd (zpw HX.out (show zkF ⟨fr,tt,nx⟩ i = true by unfold zkF; dsimp only; rw [h0,h1]; rfl) HT.out)
     go_wp2;go_ret2;exact ⟨by unfold ofN ofB; rw [HY.out]; rfl,rfl⟩
  ·obtain rfl : k = n := by omega
   have HY := Hd (zrE (l := l) (i := i) (by rw [HL.out]; exact HT.out))
   go_wp2;go_ret2;exact ⟨by unfold ofN ofB; rw [HY.out]; rfl,rfl⟩
theorem zlf.all {w : World}{F : Nat → Prop}{A : Option Addr}{n : Nat}{l : List BD}(h : zlf w F A n l) : zje w w.heap.size A n l := by
 obtain ⟨q,h1,h2,h3,h4⟩ := h;refine ⟨q,h1,h2,h3.reads,fun p hp => ⟨(h4 p hp).1,?_⟩⟩;obtain ⟨A2,c2,e2,k2,r2,i2,l2⟩ := (h4 p hp).2;exact ⟨A2,c2,e2,k2,r2.reads,i2,by omega⟩
end
end Go.Proofs.YtepagfkkjlbipaaGreat
