/-
  Parts of the proof of SymbcRuns. Conditions: those written in each statement.
-/
import Derived.Test.YtepagfkkjlbipaaGreatKaa
import Derived.Deep.Slices
import Derived.Deep.Fields
import Derived.OrdersHeld
import Derived.Deep.RegionHeld
import Derived.BigRegion
set_option linter.unusedVariables false
set_option linter.unusedSimpArgs false
set_option maxHeartbeats 64000000
set_option maxRecDepth 100000
namespace Go.Proofs.YtepagfkkjlbipaaGreat
open Go.RowKit
section
inductive InT (T : List TD) : Nat → Nat → Prop
 | self (n : Nat) : InT T n n
 | part (n k i : Nat) (t : TD) (ht : T[n]? = some t) (hk : (k : Int) ∈ zax t) (h : InT T k i) : InT T n i
def vnum (n : Int) : Int := IntKind.i64.wrap n
def IsV (T : List TD)(n : Nat)(v : Int) : Prop := ∃ (i : Nat) (t : TD),InT T n i ∧ T[i]? = some t ∧ t.kind = 1 ∧ vnum t.n = v
def IsVars (T : List TD)(n : Nat)(l : List Int) : Prop := l.Pairwise (· < ·) ∧ ∀ v,v ∈ l ↔ IsV T n v
/-! ### gone over once -/
theorem zg9 : ∀ (n : Nat) (l : List Nat),l.Nodup → (∀ x ∈ l,x < n) → l.length ≤ n
 | 0,l,_,h => by
  cases l with
  | nil => simp
  | cons x r => have := h x (by simp); omega
 | n + 1,l,hd,h => by
  by_cases hm : n ∈ l
  ·have := zg9 n (l.erase n) (hd.erase n) (fun x hx => by
    have hx' := (List.Nodup.mem_erase_iff hd).1 hx;have := h x hx'.2;omega)
   rw [List.length_erase_of_mem hm] at this;omega
  ·have := zg9 n l hd (fun x hx => by
    have := h x hx;have : x ≠ n := fun e => hm (e ▸ hx)
    omega)
   omega
def Went (T : List TD)(n : Nat)(L L' : List Nat) : Prop :=
 ∃ X,L' = L ++ X ∧ L'.Nodup ∧ n ∈ L' ∧ ∀ i ∈ X,i < T.length ∧ InT T n i ∧ ∀ t,T[i]? = some t → ∀ k : Nat,(k : Int) ∈ zax t → k ∈ L'
def WentP (T : List TD)(n : Nat)(ps : List Int)(L L' : List Nat) : Prop :=
 ∃ X,L' = (L ++ [n]) ++ X ∧ L'.Nodup ∧ (∀ k : Nat,(k : Int) ∈ ps → k ∈ L') ∧ ∀ i ∈ X,i < T.length ∧ InT T n i ∧ ∀ t,T[i]? = some t → ∀ k : Nat,(k : Int) ∈ zax t → k ∈ L'
def zsY (T : List TD)(i : Nat) : List Int := match T[i]? with
 | some t => if t.kind = 1 then [vnum t.n] else []
 | none => []
def varsOf (T : List TD)(L : List Nat) : List Int := L.flatMap (zsY T)
def U64 (x : Int) : Prop := 0 ≤ x ∧ x < 18446744073709551616
end
section
theorem zhK {α β : Type}(g : α → Option β) : ∀ l : List α,(∀ x ∈ l,∃ y,g x = some y) → ∃ ys,l.mapM g = some ys
 | [],_ => ⟨[],rfl⟩
 | x :: r,h => by
  obtain ⟨y,hy⟩ := h x (by simp);obtain ⟨ys,hys⟩ := zhK g r (fun z hz => h z (by simp [hz]));exact ⟨y :: ys,by simp [List.mapM_cons,hy,hys]⟩
theorem ziF {P : Program}{m : Nat}{e : TypeId}{q : IntKind}{n : Int}{cs : List Value}{i : Nat}(he : P.underlying e = some (.int q))(hi : cs[i]? = some (.int q n))(hw : (Lit.int q n).wf = true) :
  ∃ l,P.keyLits (m + 1) e ((cs.drop i).take 1) = some l := by
 have h1 : (cs.drop i).take 1 = [.int q n] := by
  have hl : i < cs.length := (ztt.1 hi).1;rw [List.drop_eq_getElem_cons hl];rw [ztq hl] at hi;simp [Option.some.inj hi]
 rw [h1];exact ⟨[.int q n],by simp [Program.keyLits,he,hw]⟩
theorem zhL {P : Program} {k : TypeId} {fs : Array Field} {cs : List Value} (hu : P.underlying k = some (.struct fs)) (hk : P.keyType k = true) (hc : P.cellsOf k = cs.length) (hn : fs.all (·.name != "_") = true)
  (hs : Nat.ble 1 P.types.size = true) (hf : ∀ f ∈ fs.toList,∃ q n,P.underlying f.type = some (.int q) ∧ P.cellsOf f.type = 1 ∧ cs[f.offset]? = some (.int q n) ∧ (Lit.int q n).wf = true) : ∃ l,keyOf P k (.agg cs.toArray) = some l := by
 obtain ⟨m,hm⟩ : ∃ m,P.types.size = m + 1 := ⟨P.types.size - 1,by have := Nat.le_of_ble_eq_true hs; omega⟩;obtain ⟨ys,hys⟩ := zhK (fun f : Field => P.keyLits (m + 1) f.type ((cs.drop f.offset).take (P.cellsOf f.type))) fs.toList (fun f hfm => by
  obtain ⟨q,n,h1,h2,h3,h4⟩ := hf f hfm;rw [h2];exact ziF h1 h3 h4)
 have hl : P.keyLits (P.types.size + 1) k cs = some ys.flatten := by
  rw [hm];unfold Program.keyLits;simp only [hu,hc,hn,and_self,if_true,hys,Option.map_some]
 have hform : (Value.agg cs.toArray).formed P k = true := by simp [Value.formed,hu,hc]
 refine ⟨.string (keyBytes ys.flatten),?_⟩;unfold keyOf;rw [hu];simp only [hk,hform,Bool.and_self,if_true,Value.cells,hl,Option.map_some]
end
section
def zfT : TypeDesc → Bool
 | .struct _ | .array _ _ => true
 | _ => false
section
variable {P : Program}
theorem zkB {t : TypeId}{d : TypeDesc}(hu : P.underlying t = some d)(hd : zfT d = true)(w : World) : (isAgg t).run P w = .ok true w := by
 unfold isAgg;rw [Sem.run_bind,run_underlying hu w]
 cases d <;> simp_all [zfT]
theorem zaC (w : World)(ad : Addr)(ty : TypeId)(cs : List Value)(d : TypeDesc)(hc : ∀ j u,cs[j]? = some u → w.cell? (ad.add j) = some u)
  (hu : P.underlying ty = some d) (hd : zfT d = true) (hi : (P.info? ty).map (·.size) = some cs.length) : (loadVar ty ad).run P w = .ok (.agg cs.toArray) w := by
 have hl := run_loadCells_list (P := P) w ad cs hc
 cases hq : P.info? ty with
 | none => simp [hq] at hi
 | some i =>
  have hs : i.size = cs.length := by simpa [hq] using hi
  simp [loadVar,Sem.run_bind,zkB hu hd w,sizeOf,typeInfo,hq,hs,hl]
theorem zae {ops : Array Oper}{rest : List Oper}{o : Oper}{a : Act}{w : World}{Q : Exit → Act → World → Prop}(hgd : o.guard = none)(ty : TypeId)(x : Operand)(ho : o.op = .load ty x)
  (ad : Addr) (hx : a.eval x = .pointer (some ad)) (cs : List Value) (d : TypeDesc) (hc : ∀ j u,cs[j]? = some u → w.cell? (ad.add j) = some u)
  (hu : P.underlying ty = some d) (hd : zfT d = true) (hi : (P.info? ty).map (·.size) = some cs.length)
  (h : wpList P ops Q rest (a.put o.dst (.agg cs.toArray)) w) : wpList P ops Q (o :: rest) a w :=
 wpList_plain hgd fun _ hK => by
  unfold Oper.wp execOp;simp only [ho,hx,Instr.loadAt,Instr.sureAddr,Sem.run_bind,Sem.run_pure,Result.andThen_ok,zaC w ad ty cs d hc hu hd hi];exact hK _ _ h
theorem zhM (w : World)(cs cs' : Array Value)(t : TypeId) : (w.alloc (.cells cs t)).setRow w.heap.size cs' = w.alloc (.cells cs' t) := by
 unfold World.setRow World.alloc
 congr 1
 refine Array.ext_getElem? fun i => ?_
 rw [Array.getElem?_modify]
 by_cases hi : w.heap.size = i
 ·subst hi; simp
 ·simp [hi,Array.getElem?_push,show i ≠ w.heap.size from fun e => hi e.symm]
theorem zep {ops : Array Oper}{rest : List Oper}{o1 o2 : Oper}{a : Act}{w : World}{Q : Exit → Act → World → Prop}(hg1 : o1.guard = none)(hg2 : o2.guard = none)(ty : TypeId)(x y : Operand)
  (ho1 : o1.op = .alloc ty) (ho2 : o2.op = .store ty x y) (i0 : TypeInfo) (z v : Value) (hi : P.info? ty = some i0) (hz : i0.zero = some z) (hzs : z.cells.size = i0.size) (hvs : v.cells.size = i0.size) (h1 : v.cells.all (·.oneCell') = true)
  (hx : (a.put o1.dst (.pointer (some ⟨w.heap.size,0,none⟩))).eval x = .pointer (some ⟨w.heap.size,0,none⟩)) (hy : (a.put o1.dst (.pointer (some ⟨w.heap.size,0,none⟩))).eval y = v)
  (h : wpList P ops Q rest ((a.put o1.dst (.pointer (some ⟨w.heap.size,0,none⟩))).put o2.dst undef) (w.alloc (.cells v.cells ty))) : wpList P ops Q (o1 :: o2 :: rest) a w := by
 refine wpList_plain hg1 fun K hK => ?_
 unfold Oper.wp execOp;have hrun : (Instr.alloc ty true (.tuple #[])).run P w = .ok (.pointer (some ⟨w.heap.size,0,none⟩)) (w.alloc (.cells z.cells ty)) := by
  simp [Instr.alloc,zeroValue,typeInfo,hi,hz,newVar,newRow,Sem.run_bind]
 simp only [ho1,Sem.run_bind,hrun,Result.andThen_ok,Sem.run_pure];refine hK _ _ ?_;refine wpList_plain hg2 fun K' hK' => ?_
 unfold Oper.wp execOp;have hst : (storeVar ty ⟨w.heap.size,0,none⟩ v).run P (w.alloc (.cells z.cells ty)) = .ok () (w.alloc (.cells v.cells ty)) := by
  have := run_storeCells_from (P := P) w.heap.size ty v.cells.toList 0 z.cells (w.alloc (.cells z.cells ty)) (heap_alloc_new w _) (by simp; omega) (fun u hu => (Array.all_eq_true_iff_forall_mem.1 h1) u (by simpa using hu));simp [storeVar,sizeOf,typeInfo,hi,hvs,this,zhM]
 simp only [ho2,hx,hy,Instr.storeAt,Instr.sureAddr,Sem.run_bind,Sem.run_pure,Result.andThen_ok,hst];exact hK' _ _ h
theorem zkC {ops : Array Oper}{rest : List Oper}{o1 o2 : Oper}{a : Act}{w : World}{Q : Exit → Act → World → Prop}(hg1 : o1.guard = none)(hg2 : o2.guard = none)(ty : TypeId)(x y : Operand)
  (ho1 : o1.op = .alloc ty) (ho2 : o2.op = .store ty x y) (i0 : TypeInfo) (z v : Value) (cs : Array Value) (hi : P.info? ty = some i0) (hz : i0.zero = some z) (hzs : z.cells.size = i0.size) (hcs : v.cells = cs) (hvs : cs.size = i0.size)
  (h1 : cs.all (·.oneCell') = true)
  (hx : (a.put o1.dst (.pointer (some ⟨w.heap.size,0,none⟩))).eval x = .pointer (some ⟨w.heap.size,0,none⟩)) (hy : (a.put o1.dst (.pointer (some ⟨w.heap.size,0,none⟩))).eval y = v)
  (h : ∀ w' g,w.heap.size ≤ g → Blk w' g ty cs → Below w.heap.size w w' → wpList P ops Q rest ((a.put o1.dst (.pointer (some ⟨g,0,none⟩))).put o2.dst undef) w') : wpList P ops Q (o1 :: o2 :: rest) a w := by
 subst hcs;exact zep hg1 hg2 ty x y ho1 ho2 i0 z v hi hz hzs hvs h1 hx hy (h _ _ (ztn _) (Blk.new w _ _) ((Below.refl _ _).alloc (ztn _) _))
theorem zeq (w : World)(t e : TypeId)(len : Nat)(cs : Array Value)(kd : IntKind)(i : Nat)(d : TypeDesc)(v : Value)(ht : P.underlying t = some (.array len e))(he : P.underlying e = some d)(hd : zfT d = false)
  (hsz : (P.info? e).map (·.size) = some 1) (hi : i < len) (hv : cs[i]? = some v) : (Instr.index t (.agg cs) (.int kd (i : Int))).run P w = .ok v w := by
 have hagg : (isAgg e).run P w = .ok false w := by
  unfold isAgg;rw [Sem.run_bind,run_underlying he w]
  cases d <;> simp_all [zfT]
 cases hq : P.info? e with
 | none => simp [hq] at hsz
 | some i0 =>
  have hs : i0.size = 1 := by simpa [hq] using hsz
  simp [Instr.index,run_underlying ht,hi,sizeOf,typeInfo,hq,hs,part,Sem.run_bind,hagg,asIntOf,hv]
theorem zeU {ops : Array Oper}{rest : List Oper}{o : Oper}{a : Act}{w : World}{Q : Exit → Act → World → Prop}(hgd : o.guard = none)(ty : TypeId)(x : Operand)(ho : o.op = .box ty x)(v : Value)(cs : Array Value)(hv : a.eval x = v)(hcs : v.cells = cs)
  (h : ∀ w' g,w.heap.size ≤ g → Blk w' g ty cs → Below w.heap.size w w' → wpList P ops Q rest (a.put o.dst (.pointer (some ⟨g,0,none⟩))) w') : wpList P ops Q (o :: rest) a w :=
 wpList_plain hgd fun _ hK => by
  subst hcs;unfold Oper.wp execOp;have hrun : (Instr.box ty v).run P w = .ok (.pointer (some ⟨w.heap.size,0,none⟩)) (w.alloc (.cells v.cells ty)) := by
   simp [Instr.box,newVar,newRow,Sem.run_bind]
  simp only [ho,hv,Sem.run_bind,hrun,Sem.run_pure,Result.andThen_ok];exact hK _ _ (h _ _ (ztn _) (Blk.new w _ _) ((Below.refl _ _).alloc (ztn _) _))
end
theorem zjt {w : World}{g : Nat}{t : TypeId}{v : Value}{l : List Value}(h : Blk w g t (v :: l).toArray) : ∀ j u,l[j]? = some u → w.cell? ((⟨g,1,none⟩ : Addr).add j) = some u := by
 intro j u hu;rw [show (⟨g,1,none⟩ : Addr).add j = ⟨g,1 + j,none⟩ from by unfold Addr.add; split <;> simp_all,h.cell (1 + j)];rw [Nat.add_comm]
 simpa using hu
theorem zak {w : World}{g : Nat}{t : TypeId}{l : List Value}(h : Blk w g t l.toArray) : ∀ j u,l[j]? = some u → w.cell? ((⟨g,0,none⟩ : Addr).add j) = some u := by
 intro j u hu;rw [show (⟨g,0,none⟩ : Addr).add j = ⟨g,j,none⟩ from by unfold Addr.add; split <;> simp_all,h.cell j]
 simpa using hu
end
section
theorem zhN : ∀ (l : List Value) (k : Nat) (a : Array Value),k + l.length ≤ a.size → (l.zipIdx k).foldl (fun cs (p : Value × Nat) => cs.setIfInBounds p.2 p.1) a = (a.toList.take k ++ l ++ a.toList.drop (k + l.length)).toArray
 | [],k,a,h => by simp
 | x :: r,k,a,h => by
  have hk : k < a.size := by simp at h; omega
  rw [List.zipIdx_cons,zua,zhN r (k + 1) (a.setIfInBounds k x) (by simp at h ⊢; omega)];apply congrArg List.toArray;apply List.ext_getElem?;intro i;simp only [Array.toList_setIfInBounds,List.getElem?_append,ztW,zub,Array.length_toList,List.length_append,List.length_cons,zud,List.getElem?_set,zt4,List.getElem?_cons];rw [show min (k + 1) a.size = k + 1 by omega,show min k a.size = k by omega]
  by_cases h1 : i < k
  ·simp [h1,show i < k + 1 by omega,show k ≠ i by omega,show i < k + 1 + r.length by omega,show i < k + (r.length + 1) by omega]
  ·by_cases h2 : i = k
   ·subst h2
    simp [hk,show i < i + 1 + r.length by omega]
   ·by_cases h3 : i < k + (r.length + 1)
    ·simp [h1,h3,show ¬ i < k + 1 by omega,show i < k + 1 + r.length by omega,show i - k ≠ 0 by omega,show i - k - 1 = i - (k + 1) by omega]
    ·simp [h1,h3,show ¬ i < k + 1 by omega,show ¬ i < k + 1 + r.length by omega,show k ≠ k + 1 + r.length + (i - (k + 1 + r.length)) by omega]
     congr 1; omega
theorem zha (c a : Array Value)(h : a.size = c.size) : (c.zipIdx.foldl (fun cs (p : Value × Nat) => cs.setIfInBounds (0 + p.2) p.1) a) = c := by
 rw [← Array.foldl_toList,Array.toList_zipIdx];have := zhN c.toList 0 a (by simp; omega);simp only [ztO] at this ⊢;rw [this,ztV (by simp; omega)];simp
section
variable {P : Program}
theorem zbM (w : World)(t e : TypeId)(i0 : TypeInfo)(z v : Value)(ht : P.underlying t = some (.slice e))(hi : P.info? e = some i0)(hz : i0.zero = some z)(hs : i0.size ≤ 1024)(h0 : 0 < i0.size)(hv : v.cells.size = i0.size) :
  (Instr.buildSlice t 1 #[(0,v)]).run P w = .ok (.slice (some ⟨w.heap.size,0,none⟩) 1 1) (w.alloc (.cells v.cells e)) := by
 have hfill : Instr.fill (fun i => some (i * i0.size,i0.size)) ((Array.range (1 * i0.size)).map (z.cells[· % z.cells.size]!)) [(0,v)] = some v.cells := by
  unfold Instr.fill;have hsz : ((Array.range (1 * i0.size)).map (z.cells[· % z.cells.size]!)).size = v.cells.size := by simp [hv]
  simp only [hv,ne_eq,not_true_eq_false,decide_false,ztX,Nat.zero_mul];rw [if_neg (by simp)];unfold Instr.fill;rw [zha v.cells _ hsz]
 have h24 : ¬ (1 * i0.size > 2 ^ 24) := by omega
 have hne : ¬ (1 * i0.size = 0) := by omega
 simp only [Instr.buildSlice,Sem.run_bind,run_underlying ht,Result.andThen_ok,sizeOf,typeInfo];simp only [run_program,Sem.run_bind,Result.andThen_ok,hi,Sem.run_pure,if_neg h24,if_neg hne,zeroValue,typeInfo,hz,hfill,newRow,newObj]
 rfl
theorem zcq {ops : Array Oper}{rest : List Oper}{o1 o2 : Oper}{a : Act}{w : World}{Q : Exit → Act → World → Prop}(hg1 : o1.guard = none)(hg2 : o2.guard = none)(t e : TypeId)(x s y : Operand)
  (ho1 : o1.op = .buildSlice t 1 #[(0,x)]) (ho2 : o2.op = .call { callee := .builtin .append,args := #[s,y],argTypes := #[t,t] })
  (base size bytes : Nat) (i0 : TypeInfo) (z v sv : Value) (cs xs : List Value) (n : Nat) (ht : P.underlying t = some (.slice e)) (hi : P.info? e = some i0) (hz : i0.zero = some z) (hs : i0.size = size) (hb : i0.bytes = bytes)
  (hzs : z.cells.size = size) (h0 : 0 < size) (hs0 : size ≤ 1024) (hx : a.eval x = v) (hcs : v.cells = cs.toArray) (hvs : cs.length = size) (h1 : ∀ u ∈ cs,u.oneCell' = true)
  (hown : w.ownsRow base e size sv n xs) (hbase : base ≤ w.heap.size) (h63 : n + 1 ≤ maxLen) (hbytes : (n + 1) * bytes ≤ 140737488355328)
  (hsv : (a.put o1.dst (.slice (some ⟨w.heap.size,0,none⟩) 1 1)).eval s = sv) (hy : (a.put o1.dst (.slice (some ⟨w.heap.size,0,none⟩) 1 1)).eval y = .slice (some ⟨w.heap.size,0,none⟩) 1 1)
  (h : ∀ v' w' g,w.heap.size ≤ g → w'.ownsRow base e size v' (n + 1) (xs ++ cs) → Below base w w' → w.grownBy w' sv.ownBlock → wpList P ops Q rest ((a.put o1.dst (.slice (some ⟨g,0,none⟩) 1 1)).put o2.dst v') w') : wpList P ops Q (o1 :: o2 :: rest) a w := by
 subst hs hb;refine wpList_plain hg1 fun K hK => ?_
 unfold Oper.wp execOp;have hrun := zbM (P := P) w t e i0 z v ht hi hz hs0 h0 (by rw [hcs]; simpa using hvs);simp only [ho1,Sem.run_bind,ztD,ztz,ztA,hx,hrun,Result.andThen_ok,Sem.run_pure];refine hK _ _ ?_;have hown' := hown.alloc (Obj.cells v.cells e);have hnew : zaU (w.alloc (.cells v.cells e)) (w.heap.size + 1) i0.size (some ⟨w.heap.size,0,none⟩) 1 cs := by
  refine ⟨by omega,fun _ => ⟨_,rfl,ztI _,fun j u hu => ?_⟩⟩;rw [show (⟨w.heap.size,0,none⟩ : Addr).add j = ⟨w.heap.size,j,none⟩ from by unfold Addr.add; split <;> simp_all];rw [(Blk.new w e v.cells).cell j,hcs]
  simpa using hu
 refine zcu _ hg2 s y t ho2 base e i0 z i0.size i0.bytes ht hi hz rfl rfl hzs h0 sv n xs hsv hown' _ _ 1 1 cs hy hnew h1 h63 hbytes (by simp; omega) fun v' w' q1 q2 q3 => ?_
 have hgr : w.grownBy w' sv.ownBlock := (World.grownBy_alloc w _ sv.ownBlock).trans q2;exact h v' w' _ (ztn _) q1 ((Below.refl _ _).grown hgr hbase (fun g hg => by
  rcases hown.2 with ⟨hsv0,_⟩ | ⟨g',cap,cur,hsv0,hg',_⟩
  ·rw [hsv0] at hg; simp [Value.ownBlock] at hg
  ·rw [hsv0] at hg; simp [Value.ownBlock] at hg; omega)) hgr
end
end
section
open Go.RowKit Go.WideShapes Go.ChangeShapes Go.Deep
def zdQ (g : TypeId → Option (List (Option IntKind))) : List Field → Nat → Option (List (Option IntKind))
 | [],_ => some []
 | f :: r,off => if f.offset = off then (g f.type).bind fun a => (zdQ g r (off + a.length)).map (a ++ ·) else none
def zcy (P : Program) : Nat → TypeId → Option (List (Option IntKind))
 | 0,_ => none
 | m + 1,t =>
  (match P.underlying t with
  | some .bool => some [none]
  | some (.int k) => some [some k]
  | some (.struct fs) => zdQ (zcy P m) fs.toList 0
  | some (.array n e) => (zcy P m e).map fun l => (List.replicate n l).flatten
  | _ => none).bind fun l => if P.cellsOf t = l.length then some l else none
def zsZ : Option IntKind → Value → Prop
 | none,v => ∃ b,v = .bool b
 | some k,v => ∃ n,v = .int k n ∧ (Lit.int k n).wf = true
def zdb (ks : List (Option IntKind))(cs : List Value) : Prop := cs.length = ks.length ∧ ∀ (i : Nat) (k : Option IntKind) (v : Value),ks[i]? = some k → cs[i]? = some v → zsZ k v
theorem zdb.append {a b : List (Option IntKind)}{x y : List Value}(h : zdb a x)(g : zdb b y) : zdb (a ++ b) (x ++ y) := by
 refine ⟨by simp [h.1,g.1],fun i k v hk hv => ?_⟩;rw [List.getElem?_append] at hk hv
 by_cases hi : i < a.length
 ·rw [if_pos hi] at hk
  rw [if_pos (by rw [h.1]; exact hi)] at hv;exact h.2 i k v hk hv
 ·rw [if_neg hi] at hk
  rw [if_neg (by rw [h.1]; exact hi),h.1] at hv;exact g.2 _ k v hk hv
theorem zdb.nil : zdb [] [] := ⟨rfl,fun i k v hk _ => by simp at hk⟩
theorem zcY {P : Program}{m : Nat}{t : TypeId}{ks : List (Option IntKind)}(h : zcy P m t = some ks) : P.cellsOf t = ks.length := by
 cases m with
 | zero => simp [zcy] at h
 | succ m =>
  unfold zcy at h;obtain ⟨l,_,h2⟩ := ztQ.1 h
  split at h2
  ·injection h2 with h2; subst h2; assumption
  ·cases h2
theorem zgG {g : TypeId → Option (List (Option IntKind))}{cs : List Value} : ∀ (fs : List Field) (off : Nat) (ks : List (Option IntKind)),(∀ f ∈ fs,∀ a,g f.type = some a → zdb a ((cs.drop f.offset).take a.length)) → zdQ g fs off = some ks → zdb ks ((cs.drop off).take ks.length)
 | [],off,ks,_,h => by
  simp [zdQ] at h;subst h
  simpa using zdb.nil
 | f :: r,off,ks,hg,h => by
  unfold zdQ at h
  split at h
  ·rename_i ho
   obtain ⟨a,ha,h2⟩ := ztQ.1 h;obtain ⟨b,hb,rfl⟩ := ztC.1 h2;have h1 := hg f (by simp) a ha;have h3 := zgG r (off + a.length) b (fun f' hf' => hg f' (by simp [hf'])) hb;rw [ho] at h1;rw [List.length_append,List.take_add,zt7];exact h1.append h3
  ·cases h
theorem zju {l : List (Option IntKind)}{cs : List Value} : ∀ (n off : Nat),(∀ i,i < n → zdb l ((cs.drop (off + i * l.length)).take l.length)) → zdb (List.replicate n l).flatten ((cs.drop off).take (n * l.length))
 | 0,off,_ => by simpa using zdb.nil
 | n + 1,off,h => by
  have h1 := h 0 (by omega);have h2 := zju n (off + l.length) (fun i hi => by
   have := h (i + 1) (by omega);rw [ztR] at this
   rwa [show off + l.length + i * l.length = off + (i * l.length + l.length) by omega])
  rw [List.replicate_succ,List.flatten_cons,show (n + 1) * l.length = l.length + n * l.length by rw [ztR]; omega,List.take_add,zt7];rw [Nat.zero_mul,Nat.add_zero] at h1;exact h1.append h2
section
variable {H : Type}{enc : TypeId × Value → H}{P : Program}{w : World}{base : Nat}{spare : Nat → Bool}{held : Bool}
theorem zlY : ∀ (m : Nat) (t : TypeId) (ks : List (Option IntKind)) (fuel : Nat) (cs : List Value) (x : DataW H × List MemPlace),zcy P m t = some ks → DataW.trod enc P w base spare held fuel t cs = some x → zdb ks cs := by
 intro m
 induction m with
 | zero => intro t ks fuel cs x h; simp [zcy] at h
 | succ m ih =>
  intro t ks fuel cs x hk h;have hlen := zcY hk;unfold zcy at hk;obtain ⟨l,hl,h2⟩ := ztQ.1 hk;have hlk : l = ks := by
   split at h2
   ·injection h2
   ·cases h2
  subst hlk;clear hk h2
  split at hl
  ·rename_i hu
   injection hl with hl
   subst hl;obtain ⟨b,rfl,_⟩ := DataW.trod_bool hu h;refine ⟨rfl,fun i k v hk hv => ?_⟩
   cases i with
   | zero => simp at hk hv; subst hk hv; exact ⟨b,rfl⟩
   | succ i => simp at hk
  ·rename_i k0 hu
   injection hl with hl
   subst hl;obtain ⟨n,rfl,_,hw⟩ := DataW.trod_int hu h;refine ⟨rfl,fun i k v hk hv => ?_⟩
   cases i with
   | zero => simp at hk hv; subst hk hv; exact ⟨n,rfl,hw⟩
   | succ i => simp at hk
  ·rename_i fs hu
   obtain ⟨xs,n,_,_,hcl,hxl,hg⟩ := DataW.trod_struct hu h;have := zgG (cs := cs) fs.toList 0 l (fun f hf a ha => by
    obtain ⟨i,hi,rfl⟩ := zue hf;have h1 := hg i _ (by rw [← Array.getElem?_toList]; exact ztq hi);rw [zcY ha] at h1;have hix : i < xs.length := by rw [hxl]; simpa using hi
    rw [ztq hix] at h1;exact ih _ a _ _ _ ha h1) hl
   rw [List.drop_zero,ztN (by omega)] at this;exact this
  ·rename_i n e hu
   obtain ⟨a,ha,rfl⟩ := ztC.1 hl;obtain ⟨xs,m',_,_,hcl,hxl,hg⟩ := DataW.trod_array hu h;have hae := zcY ha;have := zju (l := a) (cs := cs) n 0 (fun i hi => by
    have h1 := hg i hi;rw [hae] at h1;have hix : i < xs.length := by omega
    rw [ztq hix] at h1;rw [ztO];exact ih _ a _ _ _ ha h1)
   have hn : n * a.length = (List.replicate n a).flatten.length := by simp
   rw [List.drop_zero,ztN (by omega)] at this;exact this
  ·cases hl
theorem zlZ {α : Type}(p : Nat → α → Prop) : ∀ n : Nat,(∀ i,i < n → ∃ x,p i x) → ∃ l : List α,l.length = n ∧ ∀ i x,l[i]? = some x → p i x
 | 0,_ => ⟨[],rfl,fun i x h => by simp at h⟩
 | n + 1,h => by
  obtain ⟨l,hl,hp⟩ := zlZ p n (fun i hi => h i (by omega));obtain ⟨x,hx⟩ := h n (by omega);refine ⟨l ++ [x],by simp [hl],fun i y hy => ?_⟩;rw [List.getElem?_append] at hy
  split at hy
  ·exact hp i y hy
  ·rename_i hi
   rcases Nat.eq_or_lt_of_le (Nat.not_lt.1 hi) with h1 | h1
   ·rw [← h1] at hy
    simp at hy;subst hy;rw [← h1,hl];exact hx
   ·rw [zul (by simp; omega)] at hy
    cases hy
theorem zjv {β : Type}(m : Nat) : ∀ (l : List (List β)),(∀ x ∈ l,x.length = m) → ∀ (j : Nat) (u : β),l.flatten[j]? = some u → ∃ (k r : Nat) (x : List β),j = k * m + r ∧ l[k]? = some x ∧ x[r]? = some u
 | [],_,j,u,h => by simp at h
 | y :: t,hl,j,u,h => by
  rw [List.flatten_cons,List.getElem?_append] at h;have hy := hl y (by simp)
  split at h
  ·exact ⟨0,j,y,by omega,rfl,h⟩
  ·obtain ⟨k,r,x,h1,h2,h3⟩ := zjv m t (fun z hz => hl z (by simp [hz])) _ u h
   exact ⟨k + 1,r,x,by rw [ztR]; omega,by simpa using h2,h3⟩
theorem zhO {t e : TypeId}{m fuel : Nat}{ks : List (Option IntKind)}{A : Option Addr}{n c : Nat}{x : DataW H × List MemPlace}(ht : P.underlying t = some (.slice e))(hf : zcy P m e = some ks)(h0 : 0 < ks.length)
  (h : DataW.trod enc P w base spare held fuel t (Value.slice A n c).cells.toList = some x) : ∃ rows : List (List Value),rows.length = n ∧ (∀ r ∈ rows,zdb ks r) ∧ zaU w w.heap.size ks.length A n rows.flatten ∧ n ≤ c ∧ n ≤ maxLen := by
 rcases open_slice ht h with ⟨hcs,_⟩ | ⟨a,len,cap,mm,nn,D,Pl,hcs,_,hl,hm,hmm,_,hel⟩
 ·simp [Value.cells] at hcs
  obtain ⟨rfl,rfl,rfl⟩ := hcs;exact ⟨[],rfl,by simp,zaU.none_,ztn _,by simp⟩
 ·simp [Value.cells] at hcs
  obtain ⟨rfl,rfl,rfl⟩ := hcs;have hle : n ≤ mm := by rw [hmm]; split <;> omega
  have hk := zcY hf;obtain ⟨rows,hr,hp⟩ := zlZ (fun i r => zdb ks r ∧ ∀ j u,r[j]? = some u → w.cell? ((a.add (i * ks.length)).add j) = some u) n (fun i hi => by
   obtain ⟨cs',hc,ht'⟩ := hel i (by omega);have hA := zlY m e ks _ _ _ hf ht';obtain ⟨_,hcl,hat⟩ := World.cells?_some hc;rw [hk] at hcl hat;refine ⟨cs',hA,fun j u hu => ?_⟩;have hj : j < cs'.length := (ztt.1 hu).1;rw [hat j (by omega),hu])
  have hrl : ∀ r ∈ rows,r.length = ks.length := fun r hr' => by
   obtain ⟨i,hi,rfl⟩ := zue hr';exact (hp i _ (ztq hi)).1.1
  refine ⟨rows,hr,fun r hr' => ?_,⟨?_,fun hn => ⟨a,rfl,?_,fun j u hu => ?_⟩⟩,hl,by omega⟩
  ·obtain ⟨i,hi,rfl⟩ := zue hr'
   exact (hp i _ (ztq hi)).1
  ·rw [← hr]
   clear hp hr
   induction rows with
   | nil => simp
   | cons y t ih => simp only [List.flatten_cons,List.length_append,List.length_cons]; rw [ih (fun r hr' => hrl r (by simp [hr'])),hrl y (by simp),ztR]; omega
  ·have hi : 0 < rows.length := by omega
   have h1 := hp 0 _ (ztq hi);have h2 : 0 < rows[0].length := by rw [h1.1.1]; exact h0
   have h3 := h1.2 0 _ (ztq h2);have h4 := World.block_lt_of_cell? w _ h3
   rwa [zaz,zaz] at h4
  ·obtain ⟨k,r,y,rfl,h2,h3⟩ := zjv ks.length rows hrl j u hu
   have := (hp k y h2).2 r u h3
   rwa [za0] at this
end
end
section
section
variable {P : Program}{ops : Array Oper}{Q : Exit → Act → World → Prop}{md : Region.Mode}{T S : World → Prop}{late : List Nat}
def zeV (late : List Nat)(listed : Array Bool) : Bool := late.all fun j => !listed.getD j true
def St (T S : World → Prop)(late : List Nat)(listed : Array Bool)(w : World) : Prop := T w ∧ (zeV late listed = true → S w)
theorem St.both {listed : Array Bool}{w : World}(h1 : T w)(h2 : S w) : St T S late listed w := ⟨h1,fun _ => h2⟩
theorem bT {listed : Array Bool}{w : World}(h : Go.RowKit.Hid (T w)) : St T (fun _ => True) late listed w := ⟨h.out,fun _ => trivial⟩
theorem bS {listed : Array Bool}{w : World}(h : Go.RowKit.Hid (T w))(k : Go.RowKit.Hid (S w)) : St T S late listed w := ⟨h.out,fun _ => k.out⟩
theorem St.after {listed : Array Bool}{w : World}(h1 : T w)(h2 : zeV late listed = false) : St T S late listed w := ⟨h1,fun h => by rw [h2] at h; cases h⟩
def zas (P : Program)(md : Region.Mode)(ops : Array Oper)(Q : Exit → Act → World → Prop)(T S : World → Prop)(late : List Nat) : Nat → Array Bool → Act → World → Prop
 | 0,listed,a,w => Region.ready md ops listed = [] ∧ Q .normal a w
 | fuel + 1,listed,a,w =>
  (Region.ready md ops listed = [] → Q .normal a w) ∧
  ∀ i ∈ Region.ready md ops listed,wpOp P ops Q i (fun a' w' => St T S late (listed.setIfInBounds i true) w' ∧ zas P md ops Q T S late fuel (listed.setIfInBounds i true) a' w') a w
theorem zgH : ∀ (fuel : Nat) (listed : Array Bool) (a : Act) (w : World),zas P md ops Q T S late fuel listed a w → wpAny P md ops Q fuel listed a w
 | 0,_,_,_,h => h
 | fuel + 1,_,_,_,h => ⟨h.1,fun i hi => wpOp_mono (fun a' w' h' => zgH fuel _ a' w' h'.2) (h.2 i hi)⟩
def zl0 (md : Region.Mode)(ops : Array Oper)(late : List Nat)(i : Nat) : Bool :=
 late.all fun j => match ops[j]? with
  | some oj => oj.after.any (fun e => Region.binds md e && (e.on == i || late.contains e.on))
  | none => true
theorem zs0 {i j : Nat}{listed : Array Bool}(hl : zl0 md ops late i = true)(hn : zeV late listed = true)(hi : listed.getD i true = false)(hj : j ∈ Region.ready md ops listed) : late.contains j = false := by
 cases hc : late.contains j
 ·rfl
 ·exfalso
  unfold zl0 at hl;simp only [zt8] at hl;obtain ⟨_,oj,hoj,hall⟩ := mem_ready.1 hj;have h1 := hl j (by simpa using hc);rw [hoj] at h1;obtain ⟨e,he,hb⟩ := Array.any_eq_true'.1 h1;simp only [ztr,ztP,beq_iff_eq] at hb;have h2 := hall e he hb.1
  rcases hb.2 with q | q
  ·rw [q] at h2
   rcases ztH i listed.size with h' | h'
   ·simp [h'] at h2 hi; rw [hi] at h2; cases h2
   ·simp [Array.getElem?_eq_none h'] at h2
  ·unfold zeV at hn
   rw [zt8] at hn;have := hn e.on (by simpa using q)
   rcases ztH e.on listed.size with h' | h'
   ·simp [h'] at h2 this; rw [h2] at this; cases this
   ·simp [Array.getElem?_eq_none h'] at h2
theorem zjw {j : Nat}{listed : Array Bool}(hn : zeV late listed = true)(hc : late.contains j = false) : zeV late (listed.setIfInBounds j true) = true := by
 unfold zeV at *;rw [zt8] at *;intro k hk;have hne : j ≠ k := by
  rintro rfl;have : late.contains j = true := by simpa using hk
  rw [this] at hc
  cases hc
 rw [getD_set_ne true hne];exact hn k hk
theorem zhP {j : Nat}{listed : Array Bool}(hn : zeV late (listed.setIfInBounds j true) = true) : zeV late listed = true := by
 unfold zeV at *;rw [zt8] at *;intro k hk;have := hn k hk
 cases hg : listed.getD k true
 ·rfl
 ·by_cases hjk : j = k
  ·subst hjk
   rcases ztH j listed.size with h' | h'
   ·rw [Array.getD_eq_getD_getElem?,Array.getElem?_setIfInBounds_self_of_lt h'] at this
    cases this
   ·rw [Array.setIfInBounds_eq_of_size_le h',hg] at this
    cases this
  ·rw [getD_set_ne true hjk,hg] at this
   cases this
def okE (md : Region.Mode)(ops : Array Oper)(late : List Nat)(listed : Array Bool)(i : Nat)(b : Bool) : Bool := !b || (zl0 md ops late i && zeV late listed)
def SS (T S : World → Prop)(b : Bool)(w : World) : Prop := T w ∧ (b = true → S w)
theorem zhQ {i : Nat}{oi : Oper}{v : Value}(b : Bool)(hil : late.contains i = false)(hi : ops[i]? = some oi)(hsel : ∀ (j : Nat) (o : Oper) cs b,ops[j]? = some o → o.op ≠ .select cs b)
  (hQ : ∀ c a w,Q (.panic c) (a.put oi.dst v) w → Q (.panic c) a w) :
  ∀ (fuel : Nat) (listed : Array Bool) (a : Act) (w : World),
   (∀ j oj,ops[j]? = some oj → j ≠ i → listed.getD j true = false → (∀ e ∈ oj.after,Region.binds md e = true → e.on ≠ i) → oi.apart ops oj = true) →
   (b = true → zl0 md ops late i = true ∧ zeV late listed = true) → i ∈ Region.ready md ops listed → YieldsIf P ops (SS T S b) oi v a → St T S late listed w →
   zas P md ops Q T S late fuel (listed.setIfInBounds i true) (a.put oi.dst v) w → zas P md ops Q T S late (fuel + 1) listed a w := by
 intro fuel
 induction fuel with
 | zero =>
  intro listed a w _ hb hr hy hS H;refine ⟨fun h => (by rw [h] at hr; cases hr),fun j hj => ?_⟩
  by_cases hji : j = i
  ·subst hji; exact hy.wpOp hi ⟨hS.1,fun q => hS.2 (hb q).2⟩ ⟨⟨hS.1,fun q => hS.2 (zhP q)⟩,H⟩
  ·have := ready_mono hj hji
   rw [H.1] at this
   cases this
 | succ fuel ih =>
  intro listed a w hfree hb hr hy hS H;refine ⟨fun h => (by rw [h] at hr; cases hr),fun j hj => ?_⟩
  by_cases hji : j = i
  ·subst hji; exact hy.wpOp hi ⟨hS.1,fun q => hS.2 (hb q).2⟩ ⟨⟨hS.1,fun q => hS.2 (zhP q)⟩,H⟩
  ·have h1 := H.2 j (ready_mono hj hji)
   obtain ⟨hjun,oj,hoj,hall⟩ := mem_ready.1 hj;have hiu := (mem_ready.1 hr).1;have hnot : ∀ e ∈ oj.after,Region.binds md e = true → e.on ≠ i := fun e he hb heq => by
    have h1 := hall e he hb;have h0 := hiu;rw [heq] at h1
    rcases ztH i listed.size with h' | h'
    ·simp [h'] at h0 h1; rw [h0] at h1; cases h1
    ·simp [Array.getElem?_eq_none h'] at h1
   have h2 := wpOp_putIf hoj (hfree j oj hoj hji hjun hnot) (fun cs b => hsel i oi cs b hi) (fun cs b => hsel j oj cs b hoj) hQ hy h1;have hfree' : ∀ k ok,ops[k]? = some ok → k ≠ i → (listed.setIfInBounds j true).getD k true = false →
     (∀ e ∈ ok.after,Region.binds md e = true → e.on ≠ i) → oi.apart ops ok = true := fun k ok hk hki hun hno => by
    refine hfree k ok hk hki ?_ hno
    by_cases hjk : j = k
    ·subst hjk; exact hjun
    ·rw [getD_set_ne true hjk] at hun; exact hun
   refine wpOp_mono (fun a' w' h3 => ?_) h2;have h4 : St T S late (listed.setIfInBounds j true) w' := ⟨h3.2.1.1,fun q => h3.2.1.2 (by
    rw [Array.setIfInBounds_comm _ _ (Ne.symm hji)];exact zjw q hil)⟩
   refine ⟨h4,ih (listed.setIfInBounds j true) a' w' hfree' (fun q => ⟨(hb q).1,zjw (hb q).2 (zs0 (hb q).1 (hb q).2 hiu hj)⟩) (ready_mono hr (Ne.symm hji)) h3.1 h4 ?_⟩;rw [Array.setIfInBounds_comm _ _ hji];exact h3.2.2
def zc6 (ops : Array Oper)(i : Nat) : Option (Option Tmp × Op) := (ops[i]?).map fun o => (o.dst,o.op)
def zaS (ops : Array Oper)(i : Nat)(a : Act) : Option Bool := (ops[i]?).map fun o => Region.wanted o (yielded ops a.tmps)
def zbv (md : Region.Mode)(ops : Array Oper)(late : List Nat)(listed : Array Bool)(i : Nat)(b : Bool) : Bool :=
 Region.noSelect ops && (Region.free md ops listed i && ((Region.ready md ops listed).contains i && (!late.contains i && (!b || (zl0 md ops late i && zeV late listed)))))
theorem zhb {i : Nat}{d : Option Tmp}{op : Op}(h : zc6 ops i = some (d,op)) : ∃ o,ops[i]? = some o ∧ o.dst = d ∧ o.op = op := by
 unfold zc6 at h
 cases e : ops[i]? with
 | none => rw [e] at h; cases h
 | some o =>
  rw [e] at h;injection h with h
  injection h with h1 h2
  exact ⟨o,rfl,h1,h2⟩
theorem zeW {i : Nat}{a : Act}{b : Bool}{o : Oper}(h : zaS ops i a = some b)(ho : ops[i]? = some o) : Region.wanted o (yielded ops a.tmps) = b := by
 unfold zaS at h;rw [ho] at h;injection h
section
variable {fuel : Nat}{listed : Array Bool}{a : Act}{w : World}
theorem zfU (b : Bool){i : Nat}{oi : Oper}{v : Value}(hi : ops[i]? = some oi)(hc : zbv md ops late listed i b = true)(hQ : ∀ c a w,Q (.panic c) (a.put oi.dst v) w → Q (.panic c) a w)(hy : YieldsIf P ops (SS T S b) oi v a)(hS : St T S late listed w)
  (h : zas P md ops Q T S late fuel (listed.setIfInBounds i true) (a.put oi.dst v) w) : zas P md ops Q T S late (fuel + 1) listed a w := by
 unfold zbv at hc;simp only [ztr,ztP,zui] at hc;obtain ⟨h1,h2,h3,h4,h5⟩ := hc;exact zhQ b h4 hi (Region.noSelect_spec h1) hQ fuel listed a w (Region.free_spec hi h2) (fun q => by
  rcases h5 with h5 | h5
  ·rw [q] at h5; cases h5
  ·exact h5) (by simpa using h3) hy hS h
theorem zd8 (b : Bool)(i : Nat)(d : Option Tmp)(op : Op)(v : Value)(ho : zc6 ops i = some (d,op))(hc : zbv md ops late listed i b = true)(hw : zaS ops i a = some true)(hQ : ∀ c a w,Q (.panic c) (a.put d v) w → Q (.panic c) a w)
  (hy : ∀ o : Oper,o.op = op → ∀ w,SS T S b w → (execOp a.eval o).run P w = .ok (.value v) w) (hS : St T S late listed w) (h : zas P md ops Q T S late fuel (listed.setIfInBounds i true) (a.put d v) w) : zas P md ops Q T S late (fuel + 1) listed a w := by
 obtain ⟨o,h1,h2,h3⟩ := zhb ho;subst h2;exact zfU b h1 hc hQ (.inl ⟨zeW hw h1,hy o h3⟩) hS h
theorem zs1 (i : Nat)(d : Option Tmp)(op : Op)(ho : zc6 ops i = some (d,op))(hc : zbv md ops late listed i false = true)(hw : zaS ops i a = some false)(hQ : ∀ c a w,Q (.panic c) (a.put d undef) w → Q (.panic c) a w)
  (hS : St T S late listed w) (h : zas P md ops Q T S late fuel (listed.setIfInBounds i true) (a.put d undef) w) : zas P md ops Q T S late (fuel + 1) listed a w := by
 obtain ⟨o,h1,h2,h3⟩ := zhb ho;subst h2;exact zfU false h1 hc hQ (.inr ⟨zeW hw h1,rfl⟩) hS h
theorem zrv (i : Nat)(d : Option Tmp)(x : Operand)(v : Value)(ho : zc6 ops i = some (d,.move x))(hc : zbv md ops late listed i false = true)(hw : zaS ops i a = some true)(hQ : ∀ c a w,Q (.panic c) (a.put d v) w → Q (.panic c) a w)
  (hx : a.eval x = v) (hS : St T S late listed w) (h : zas P md ops Q T S late fuel (listed.setIfInBounds i true) (a.put d v) w) : zas P md ops Q T S late (fuel + 1) listed a w :=
 zd8 false i d _ v ho hc hw hQ (fun o e w _ => by rw [BigFrame.run_move x e,hx]) hS h
theorem zl1 (i : Nat)(d : Option Tmp)(c x y : Operand)(b : Bool)(v : Value)(ho : zc6 ops i = some (d,.pick c x y))(hc : zbv md ops late listed i false = true)(hw : zaS ops i a = some true)(hQ : ∀ c a w,Q (.panic c) (a.put d v) w → Q (.panic c) a w)
  (hb : a.eval c = .bool b) (hv : (if b then a.eval x else a.eval y) = v) (hS : St T S late listed w) (h : zas P md ops Q T S late fuel (listed.setIfInBounds i true) (a.put d v) w) : zas P md ops Q T S late (fuel + 1) listed a w :=
 zd8 false i d _ v ho hc hw hQ (fun o e w _ => by
  unfold execOp;subst hv
  cases b <;> simp [e,hb,asBool]) hS h
theorem zs2 (i : Nat)(d : Option Tmp)(x : Operand)(ad : Addr)(ho : zc6 ops i = some (d,.nilCheck x))(hc : zbv md ops late listed i false = true)(hw : zaS ops i a = some true)(hQ : ∀ c a w,Q (.panic c) (a.put d (.pointer (some ad))) w → Q (.panic c) a w)
  (hx : a.eval x = .pointer (some ad)) (hS : St T S late listed w) (h : zas P md ops Q T S late fuel (listed.setIfInBounds i true) (a.put d (.pointer (some ad))) w) : zas P md ops Q T S late (fuel + 1) listed a w :=
 zd8 false i d _ _ ho hc hw hQ (fun o e w _ => by unfold execOp; simp [e,hx]) hS h
def zar (P : Program)(md : Region.Mode)(ops : Array Oper)(Q : Exit → Act → World → Prop)(T S : World → Prop)(late : List Nat)(fuel : Nat)(listed : Array Bool)(a : Act)(w : World)(i : Nat) : Prop :=
 wpOp P ops Q i (fun a' w' => St T S late (listed.setIfInBounds i true) w' ∧ zas P md ops Q T S late fuel (listed.setIfInBounds i true) a' w') a w
theorem zaN (i : Nat)(hr : Region.ready md ops listed = [i])(h : zar P md ops Q T S late fuel listed a w i) : zas P md ops Q T S late (fuel + 1) listed a w :=
 ⟨fun h0 => (by rw [hr] at h0; cases h0),fun j hj => (by rw [hr] at hj; simp at hj; subst hj; exact h)⟩
theorem zod (i j : Nat)(hr : Region.ready md ops listed = [i,j])(h : zar P md ops Q T S late fuel listed a w i)(h2 : zar P md ops Q T S late fuel listed a w j) : zas P md ops Q T S late (fuel + 1) listed a w :=
 ⟨fun h0 => (by rw [hr] at h0; cases h0),fun k hk => (by
  rw [hr] at hk;simp at hk
  rcases hk with rfl | rfl
  ·exact h
  ·exact h2)⟩
theorem zar.of (i : Nat)(d : Option Tmp)(op : Op)(ho : zc6 ops i = some (d,op))(hw : zaS ops i a = some true)
  (h : ∀ (o : Oper) (K : Act → World → Prop),o.dst = d → o.op = op → (∀ a w,St T S late (listed.setIfInBounds i true) w → zas P md ops Q T S late fuel (listed.setIfInBounds i true) a w → K a w) → Oper.wp P o a w K Q) : zar P md ops Q T S late fuel listed a w i := by
 obtain ⟨o,h1,h2,h3⟩ := zhb ho;exact wpOp_step h1 fun K hK => by
  rw [if_pos (zeW hw h1)];exact h o K h2 h3 fun a w hS hW => hK a w ⟨hS,hW⟩
theorem zar.run (i : Nat)(d : Option Tmp)(op : Op)(v : Value)(w1 : World)(ho : zc6 ops i = some (d,op))(hw : zaS ops i a = some true)(hy : ∀ o : Oper,o.op = op → (execOp a.eval o).run P w = .ok (.value v) w1)
  (hS : St T S late (listed.setIfInBounds i true) w1) (h : zas P md ops Q T S late fuel (listed.setIfInBounds i true) (a.put d v) w1) : zar P md ops Q T S late fuel listed a w i :=
 zar.of i d op ho hw fun o K h2 h3 hK => by
  unfold Oper.wp;rw [hy o h3,Oper.upon_value,h2];exact hK _ _ hS h
theorem zar.skip (i : Nat)(op : Op)(w1 : World)(ho : zc6 ops i = some (none,op))(hw : zaS ops i a = some true)(hy : ∀ o : Oper,o.op = op → (execOp a.eval o).run P w = .ok .skip w1)
  (hS : St T S late (listed.setIfInBounds i true) w1) (h : zas P md ops Q T S late fuel (listed.setIfInBounds i true) (a.put none undef) w1) : zar P md ops Q T S late fuel listed a w i :=
 zar.of i none op ho hw fun o K h2 h3 hK => by
  unfold Oper.wp;rw [hy o h3,Oper.upon_skip,h2];exact hK _ _ hS h
theorem zar.assign (i : Nat)(d : Option Tmp)(x : Operand)(v : Value)(ho : zc6 ops i = some (d,.assign x))(hw : zaS ops i a = some true)(hx : a.eval x = v)
  (hS : St T S late (listed.setIfInBounds i true) w) (h : zas P md ops Q T S late fuel (listed.setIfInBounds i true) (a.put d v) w) : zar P md ops Q T S late fuel listed a w i :=
 zar.run i d _ v w ho hw (fun o e => by rw [BigFrame.run_assign x e,hx]) hS h
end
theorem zab {listed : Array Bool}{a : Act}{w : World}(hr : Region.ready md ops listed = [])(h : Q .normal a w) : ∀ fuel,zas P md ops Q T S late fuel listed a w
 | 0 => ⟨hr,h⟩
 | _ + 1 => ⟨fun _ => h,by rw [hr]; simp⟩
theorem zac (T S : World → Prop)(late : List Nat){id : Nat}{a : Act}{w : World}(hm : P.follows .mixedOrders = true)
  (h : zas P .any ops Q T S late ops.size (Array.replicate ops.size false) a w.drew) : (Code.region id ops true).wp P Q a w :=
 wp_region_any hm (zgH _ _ _ _ h)
end
end
end Go.Proofs.YtepagfkkjlbipaaGreat
