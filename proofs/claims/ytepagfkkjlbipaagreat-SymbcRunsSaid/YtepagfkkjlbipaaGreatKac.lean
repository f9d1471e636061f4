/-
  Parts of the proof of SymbcRuns. Conditions: those written in each statement.
-/
import Derived.Test.YtepagfkkjlbipaaGreatKab
import Derived.WideKeyEntry
import Derived.Laws.CopyRow
import Derived.Laws.Slices
import Derived.BigFrame
set_option linter.unusedVariables false
set_option linter.unusedSimpArgs false
set_option maxHeartbeats 64000000
set_option maxRecDepth 100000
namespace Go.Proofs.YtepagfkkjlbipaaGreat
open Go.RowKit
section
def zbr (w : World)(base : Nat)(e : TypeId)(size : Nat)(v : Value)(n : Nat)(xs : List Value) : Prop :=
 xs.length = n * size ∧ ((v = .slice none 0 0 ∧ n = 0) ∨ ∃ g cap cur,v = .slice (some ⟨g,0,none⟩) n cap ∧ base ≤ g ∧ w.heap[g]? = some (.cells cur e (0,0)) ∧ n ≤ cap ∧ cur.toList.take (n * size) = xs ∧ n * size ≤ cur.size)
section
variable {w w' : World}{base : Nat}{e : TypeId}{size : Nat}{v : Value}{n : Nat}{xs : List Value}
theorem zbr.of_own (h : w.ownsRow base e size v n xs) : zbr w base e size v n xs := by
 refine ⟨h.1,?_⟩
 rcases h.2 with h | ⟨g,cap,cur,h1,h2,h3,h4,_,h6,h7⟩
 ·exact .inl h
 ·exact .inr ⟨g,cap,cur,h1,h2,h3,h4,h7,by rw [h6]; exact Nat.mul_le_mul_right _ h4⟩
theorem zbr.ge (h : zbr w base e size v n xs) : ∀ g,v.ownBlock = some g → base ≤ g ∧ g < w.heap.size := by
 intro g hg
 rcases h.2 with ⟨h,_⟩ | ⟨g',cap,cur,h1,h2,h3,_⟩
 ·rw [h] at hg; simp [Value.ownBlock] at hg
 ·rw [h1] at hg
  simp [Value.ownBlock] at hg;subst hg;exact ⟨h2,(Array.getElem?_eq_some_iff.1 h3).1⟩
theorem zbr.block_ (h : zbr w base e size v n xs)(hb : ∀ g,v.ownBlock = some g → w'.heap[g]? = w.heap[g]?) : zbr w' base e size v n xs := by
 refine ⟨h.1,?_⟩
 rcases h.2 with h | ⟨g,cap,cur,h1,h2,h3,h4⟩
 ·exact .inl h
 ·exact .inr ⟨g,cap,cur,h1,h2,by rw [hb g (by rw [h1]; rfl)]; exact h3,h4⟩
theorem zbr.grown (h : zbr w base e size v n xs){row : Option Nat}(hg : w.grownBy w' row)(hne : v.ownBlock = none ∨ v.ownBlock ≠ row) : zbr w' base e size v n xs :=
 h.block_ fun g hv => hg.block g (h.ge g hv).2 (fun e => by
  rcases hne with hn | hn
  ·rw [hn] at hv; cases hv
  ·exact hn (by rw [hv,e]))
theorem zbr.below (h : zbr w base e size v n xs)(hb : Below w.heap.size w w') : zbr w' base e size v n xs := h.block_ fun g hv => hb.block g (h.ge g hv).2
theorem zbr.slice (h : zbr w base e size v n xs) : ∃ A c,v = .slice A n c ∧ n ≤ c ∧ zaU w w.heap.size size A n xs := by
 rcases h.2 with ⟨rfl,rfl⟩ | ⟨g,cap,cur,rfl,h2,h3,h4,h5,h6⟩
 ·exact ⟨none,0,rfl,ztn _,h.1,fun h => absurd h (by omega)⟩
 ·refine ⟨_,cap,rfl,h4,h.1,fun hn => ⟨_,rfl,(Array.getElem?_eq_some_iff.1 h3).1,fun j u hu => ?_⟩⟩
  have hj : j < n * size := by have := (ztt.1 hu).1; rw [h.1] at this; exact this
  rw [show (⟨g,0,none⟩ : Addr).add j = ⟨g,j,none⟩ from by unfold Addr.add; split <;> simp_all,cell_of_row w g j cur e (0,0) h3];rw [← h5,zud,if_pos hj] at hu
  simpa using hu
theorem zbr.form (h : zbr w base e size v n xs)(hn : 0 < n) : ∃ g cap,v = .slice (some ⟨g,0,none⟩) n cap ∧ n ≤ cap ∧ base ≤ g ∧ g < w.heap.size := by
 rcases h.2 with ⟨_,h0⟩ | ⟨g,cap,cur,h1,h2,h3,h4,_⟩
 ·omega
 ·exact ⟨g,cap,h1,h4,h2,(Array.getElem?_eq_some_iff.1 h3).1⟩
theorem zbr.cell {g cap : Nat}(h : zbr w base e size (.slice (some ⟨g,0,none⟩) n cap) n xs)(j : Nat)(hj : j < n * size) : w.cell? ⟨g,j,none⟩ = xs[j]? := by
 rcases h.2 with ⟨h',_⟩ | ⟨g',cap',cur,h1,h2,h3,h4,h5,h6⟩
 ·simp at h'
 ·simp only [Value.slice.injEq,Option.some.injEq,Addr.mk.injEq,and_true,true_and] at h1
  obtain ⟨rfl,rfl⟩ := h1;rw [cell_of_row w g j cur e (0,0) h3,← h5,zud,if_pos hj];simp
theorem zbr.frozen {g cap : Nat}(h : zbr w base e size (.slice (some ⟨g,0,none⟩) n cap) n xs)(j : Nat) : w.frozen? ⟨g,j,none⟩ = false := by
 rcases h.2 with ⟨h',_⟩ | ⟨g',cap',cur,h1,h2,h3,h4,h5,h6⟩
 ·simp at h'
 ·simp only [Value.slice.injEq,Option.some.injEq,Addr.mk.injEq,and_true,true_and] at h1
  obtain ⟨rfl,rfl⟩ := h1;exact frozen_of_row w g j cur e h3
theorem zbr.stored {g cap : Nat}(h : zbr w base e size (.slice (some ⟨g,0,none⟩) n cap) n xs)(j : Nat)(u : Value) :
  zbr (w.setCell ⟨g,j,none⟩ u) base e size (.slice (some ⟨g,0,none⟩) n cap) n (xs.set j u) ∧ w.grownBy (w.setCell ⟨g,j,none⟩ u) (some g) := by
 rcases h.2 with ⟨h',_⟩ | ⟨g',cap',cur,h1,h2,h3,h4,h5,h6⟩
 ·simp at h'
 ·simp only [Value.slice.injEq,Option.some.injEq,Addr.mk.injEq,and_true,true_and] at h1
  obtain ⟨rfl,rfl⟩ := h1;refine ⟨⟨by simpa using h.1,.inr ⟨g,cap,cur.setIfInBounds j u,rfl,h2,heap_setCell_same w g j cur e u h3,h4,?_,by simpa using h6⟩⟩,
   ⟨rfl,rfl,rfl,by simp,fun k _ hk => heap_setCell_other w ⟨g,j,none⟩ k u (fun e => hk (by simp [e]))⟩⟩
  rw [Array.toList_setIfInBounds,← h5,List.take_set]
end
end
section
def zc3 (w : World)(b : Nat) : Prop := ∃ es clock,w.heap[b]? = some (.map es clock) ∧ ∀ e ∈ es.toList,e.born < clock
section
variable {κ : Type}[DecidableEq κ]{P : Program}{k : TypeId}{enc : κ → Value}{V : κ → Prop}{w w' : World}{b n : Nat}{f : κ → Option Value}
omit [DecidableEq κ] in
theorem zc3.new (w : World) : zc3 (w.alloc (.map #[] 0)) w.heap.size := ⟨#[],0,(MapKept.heap_alloc w _).1,by simp⟩
omit [DecidableEq κ] in
theorem zc3.block_ (h : zc3 w b)(hb : w'.heap[b]? = w.heap[b]?) : zc3 w' b := by
 obtain ⟨es,c,h1,h2⟩ := h;exact ⟨es,c,hb.trans h1,h2⟩
theorem zaR.entry {t e : TypeId}(h : zaR P k enc V w b n f)(hst : zc3 w b)(E : zdt P k enc V)(ht : P.underlying t = some (.map k e))(z : Value)(hz : ∀ w,(zeroValue e).run P w = .ok z w)(x : κ)(hx : V x)(hf : f x = none) :
  ∃ (c : Nat) (w1 : World),(Instr.mapEntry t (.map (some b)) (enc x)).run P w = .ok (.tuple #[z,goInt c]) w1 ∧ w.grownBy w1 (some b) ∧
   ∀ val,∃ w2,(Instr.entryStore t (.map (some b)) (goInt c) val).run P w1 = .ok () w2 ∧ zaR P k enc V w2 b (n + 1) (zeC f x val) ∧ zc3 w2 b ∧ w.grownBy w2 (some b) := by
 obtain ⟨es,clock,hb,hs,hd,hv,hk⟩ := h;obtain ⟨es',clock',hb',hlt⟩ := hst;rw [hb] at hb';injection hb' with hb'
 injection hb' with h1 h2
 subst h1 h2;obtain ⟨l,hl⟩ := E.reads x hx;have hgr : ∀ o,w.grownBy (ChangeMaps.setBlock w b o) (some b) := fun o => ⟨rfl,rfl,rfl,by simp [ChangeMaps.setBlock],fun i _ hi => ChangeMaps.heap_setBlock_other hb _ (fun e => hi (by rw [e]))⟩
 rcases E.keyed.find w hl es.toList (zaR.keys E hv) with ⟨h1,h2⟩ | ⟨j,e0,h1,h2,h3⟩
 ·refine ⟨clock,ChangeMaps.setBlock w b (.map (es.push ⟨enc x,z,clock⟩) (clock + 1)),by simp [Instr.mapEntry,run_underlying ht,MapKept.run_getObj_map hb,E.keyed.check w false hl,h1,hz,MapKept.run_setObj_map _ hb,Result.andThen,ChangeMaps.setBlock],hgr _,fun val => ?_⟩
  have hw2 := ChangeMaps.heap_setBlock_same hb (.map (es.push ⟨enc x,z,clock⟩) (clock + 1));have hidx : (es.push ⟨enc x,z,clock⟩).findIdx? (fun e => ((e.born : Nat) : Int) == ((clock : Nat) : Int)) = some es.size := by
   rw [Go.WideElems.findIdx_arr,Array.toList_push,List.findIdx?_append];have h0 : es.toList.findIdx? (fun e => ((e.born : Nat) : Int) == ((clock : Nat) : Int)) = none := by
    rw [List.findIdx?_eq_none_iff];intro e he;have := hlt e he;simp;omega
   rw [h0];simp
  have hmod : (es.push ⟨enc x,z,clock⟩).modify es.size (fun e => { e with val := val }) = es.push ⟨enc x,val,clock⟩ := by
   apply Array.ext';rw [Array.toList_modify,Array.toList_push,Array.toList_push,← Array.length_toList,Go.WideElems.modify_last]
  have hsb : ∀ o o',ChangeMaps.setBlock (ChangeMaps.setBlock w b o) b o' = ChangeMaps.setBlock w b o' := by
   intro o o';simp [ChangeMaps.setBlock]
  refine ⟨ChangeMaps.setBlock w b (.map (es.push ⟨enc x,val,clock⟩) (clock + 1)),?_,⟨es.push ⟨enc x,val,clock⟩,clock + 1,ChangeMaps.heap_setBlock_same hb _,by simp; omega,?_,?_,?_⟩,⟨es.push ⟨enc x,val,clock⟩,clock + 1,ChangeMaps.heap_setBlock_same hb _,?_⟩,hgr _⟩
  ·simp [Instr.entryStore,MapKept.run_getObj_map hw2,asInt,asIntOf,goInt,hidx,hmod,MapKept.run_setObj_map _ hw2,Result.andThen]
   exact hsb _ _
  ·simp only [Array.toList_push,List.map_append,ztz,ztA]
   refine List.nodup_append.2 ⟨hd,by simp,?_⟩;intro a ha c hc;simp at hc;subst hc;obtain ⟨e1,he1,rfl⟩ := List.mem_map.1 ha;exact h2 e1 he1
  ·intro e1 he1
   simp only [Array.toList_push,List.mem_append,List.mem_singleton] at he1
   rcases he1 with he1 | rfl
   ·obtain ⟨y,hy,hke,hfy⟩ := hv e1 he1
    refine ⟨y,hy,hke,?_⟩;unfold zeC;rw [if_neg (fun e => h2 e1 he1 (by rw [hke,e])),hfy]
   ·exact ⟨x,hx,rfl,by simp [zeC]⟩
  ·intro y u hy
   unfold zeC at hy;simp only [Array.toList_push,List.mem_append,List.mem_singleton]
   by_cases hyx : y = x
   ·exact ⟨hyx ▸ hx,_,.inr rfl,by rw [hyx]⟩
   ·rw [if_neg hyx] at hy
    obtain ⟨hy0,e1,he1,hk1⟩ := hk y u hy;exact ⟨hy0,e1,.inl he1,hk1⟩
  ·intro e1 he1
   simp only [Array.toList_push,List.mem_append,List.mem_singleton] at he1
   rcases he1 with he1 | rfl
   ·have := hlt e1 he1
    omega
   ·dsimp only
    omega
 ·exfalso
  have hm0 : e0 ∈ es.toList := ztv h2;obtain ⟨y,hy,hke,hfy⟩ := hv e0 hm0;have hxy : x = y := E.inj x y hx hy (h3 ▸ hke);subst hxy;rw [hf] at hfy
  cases hfy
end
end
section
def zaM (cs : List Value)(k : Nat)(vs : List Value) : List Value := cs.take k ++ vs ++ cs.drop (k + vs.length)
theorem zaD (w : World)(g : Nat)(cs : Array Value) : w.grownBy (w.setRow g cs) (some g) :=
 ⟨rfl,rfl,rfl,by simp,fun i _ hne => setRow_other w g i cs (fun e => hne (by rw [e]))⟩
section
variable {P : Program}
theorem zaX (w : World)(g off : Nat)(tb ty : TypeId)(cs vs : List Value)(v : Value)(hB : Blk w g tb cs.toArray)(hv : v.cells = vs.toArray)(hi : (P.info? ty).map (·.size) = some vs.length)
  (hl : off + vs.length ≤ cs.length) (h1 : ∀ u ∈ vs,u.oneCell' = true) : (storeVar ty ⟨g,off,none⟩ v).run P w = .ok () (w.setRow g (zaM cs off vs).toArray) := by
 have hst := run_storeCells_at (P := P) g off tb vs 0 cs.toArray w hB (by simpa using hl) h1
 cases hq : P.info? ty with
 | none => simp [hq] at hi
 | some i =>
  have hs : i.size = vs.length := by simpa [hq] using hi
  simp [storeVar,Sem.run_bind,sizeOf,typeInfo,hq,hs,hv,hst,zaM]
theorem zaa {ops : Array Oper}{rest : List Oper}{o : Oper}{a : Act}{w : World}{Q : Exit → Act → World → Prop}(hgd : o.guard = none)(ty : TypeId)(x y : Operand)(ho : o.op = .store ty x y)
  (g off : Nat) (tb : TypeId) (cs vs : List Value) (v : Value) (hB : Blk w g tb cs.toArray) (hx : a.eval x = .pointer (some ⟨g,off,none⟩)) (hy : a.eval y = v) (hv : v.cells = vs.toArray) (hi : (P.info? ty).map (·.size) = some vs.length)
  (hl : off + vs.length ≤ cs.length) (h1 : ∀ u ∈ vs,u.oneCell' = true)
  (h : ∀ w',Blk w' g tb (zaM cs off vs).toArray → w.grownBy w' (some g) → w'.heap.size = w.heap.size → wpList P ops Q rest (a.put o.dst undef) w') : wpList P ops Q (o :: rest) a w :=
 wpList_plain hgd fun _ hK => by
  unfold Oper.wp execOp;simp only [ho,hx,hy,Instr.storeAt,Instr.sureAddr,Sem.run_bind,Sem.run_pure,Result.andThen_ok,zaX w g off tb ty cs vs v hB hv hi hl h1];exact hK _ _ (h _ (setRow_heap w g _ _ tb (0,0) hB) (zaD w g _) (by simp))
theorem zc4 {ops : Array Oper}{rest : List Oper}{o : Oper}{a : Act}{w : World}{Q : Exit → Act → World → Prop}(hgd : Region.wanted o (yielded ops a.tmps) = true)(ty : TypeId)(x : Operand)(ho : o.op = .load ty x)
  (ad : Addr) (hx : a.eval x = .pointer (some ad)) (cs : List Value) (d : TypeDesc) (hc : ∀ j u,cs[j]? = some u → w.cell? (ad.add j) = some u)
  (hu : P.underlying ty = some d) (hd : zfT d = true) (hi : (P.info? ty).map (·.size) = some cs.length)
  (h : wpList P ops Q rest (a.put o.dst (.agg cs.toArray)) w) : wpList P ops Q (o :: rest) a w :=
 BigFrame.wpList_want hgd fun _ hK => by
  unfold Oper.wp execOp;simp only [ho,hx,Instr.loadAt,Instr.sureAddr,Sem.run_bind,Sem.run_pure,Result.andThen_ok,zaC w ad ty cs d hc hu hd hi];exact hK _ _ h
theorem zm8 {t e : TypeId}(ht : P.underlying t = some (.slice e)) : P.elem t = e := by
 simp [Program.elem,ht]
end
end
section
def eqV : Value → Value → Bool
 | .int _ a,.int _ b => a == b
 | .bool a,.bool b => a == b
 | _,_ => false
def eqL : List Value → List Value → Bool
 | [],[] => true
 | x :: xs,y :: ys => eqV x y && eqL xs ys
 | _,_ => false
theorem ze6 : ∀ (a b c d : List Value),a.length = c.length → eqL (a ++ b) (c ++ d) = (eqL a c && eqL b d)
 | [],b,[],d,_ => by simp [eqL]
 | [],b,y :: c,d,h => by simp at h
 | x :: a,b,[],d,h => by simp at h
 | x :: a,b,y :: c,d,h => by simp only [List.cons_append,eqL]; rw [ze6 a b c d (by simpa using h),Bool.and_assoc]
theorem zdb.tail {k : Option IntKind}{ks : List (Option IntKind)}{x : Value}{xs : List Value}(h : zdb (k :: ks) (x :: xs)) : zdb ks xs :=
 ⟨by have := h.1; simpa using this,fun i k' v hk hv => h.2 (i + 1) k' v (by simpa using hk) (by simpa using hv)⟩
theorem zi0 : ∀ (ks : List (Option IntKind)) (xs ys : List Value),zdb ks xs → zdb ks ys → (eqL xs ys = true ↔ xs = ys)
 | [],xs,ys,hx,hy => by
  have h1 : xs = [] := List.eq_nil_of_length_eq_zero hx.1;have h2 : ys = [] := List.eq_nil_of_length_eq_zero hy.1;subst h1 h2;simp [eqL]
 | k :: ks,[],ys,hx,hy => by have := hx.1; simp at this
 | k :: ks,x :: xs,[],hx,hy => by have := hy.1; simp at this
 | k :: ks,x :: xs,y :: ys,hx,hy => by
  have ih := zi0 ks xs ys hx.tail hy.tail;have a1 := hx.2 0 k x rfl rfl;have a2 := hy.2 0 k y rfl rfl;simp only [eqL,ztr,ih,List.cons.injEq];refine and_congr_left fun _ => ?_
  cases k with
  | none => obtain ⟨b,rfl⟩ := a1; obtain ⟨c,rfl⟩ := a2; simp [eqV]
  | some k => obtain ⟨n,rfl,_⟩ := a1; obtain ⟨m,rfl,_⟩ := a2; simp [eqV]
def zm9 (P : Program) : Nat → TypeId → Bool
 | 0,_ => false
 | m + 1,t => (P.info? t).isSome &&
  match P.underlying t with
  | some .bool => true
  | some (.int _) => true
  | some (.struct fs) => !P.stoodInHeld t && fs.toList.all fun f => f.name != "_" && zm9 P m f.type
  | some (.array _ e) => zm9 P m e
  | _ => false
def zkX (P : Program)(t : TypeId) : Bool := match P.underlying t with
 | some d => zfT d
 | none => false
def zig (P : Program)(t : TypeId)(cs : List Value) : Value := if zkX P t then .agg cs.toArray else cs.headD undef
section
variable {P : Program}
theorem zeD {m : Nat}{t : TypeId}{ks : List (Option IntKind)}(hk : zcy P m t = some ks)(hi : (P.info? t).isSome = true)(xs : List Value)(off : Nat)(h : zdb ks ((xs.drop off).take ks.length))(w : World) :
  (part t xs.toArray off).run P w = .ok (zig P t ((xs.drop off).take ks.length)) w := by
 have hlen := zcY hk;obtain ⟨i0,hi0⟩ := Option.isSome_iff_exists.1 hi;have hsz : i0.size = ks.length := by rw [← hlen]; simp [Program.cellsOf,hi0]
 cases m with
 | zero => simp [zcy] at hk
 | succ m =>
  unfold zcy at hk;obtain ⟨l,hl,h2⟩ := ztQ.1 hk;have hlk : l = ks := by
   split at h2
   ·injection h2
   ·cases h2
  subst hlk;have ext : ∀ n,(xs.toArray.extract off (off + n)) = ((xs.drop off).take n).toArray := fun n => by
   refine Array.ext_getElem? fun j => ?_
   rw [Array.getElem?_extract];simp only [zt3,ztK,zud,zt4]
   by_cases hj : j < n
   ·by_cases hj2 : off + j < xs.length
    ·rw [if_pos (by omega),if_pos hj]
    ·rw [if_neg (by omega),if_pos hj,zul (by omega)]
   ·rw [if_neg (by omega),if_neg hj]
  have one : ∀ k,l = [k] → ∃ v,(xs.drop off).take l.length = [v] ∧ xs.toArray[off]? = some v := fun k hk1 => by
   subst hk1;have h3 := h.1
   match hq : (xs.drop off).take [k].length,h3 with
   | [v],_ =>
    refine ⟨v,rfl,?_⟩;have : ((xs.drop off).take 1)[0]? = some v := by rw [show (1 : Nat) = [k].length from rfl,hq]; rfl
    simpa using this
  split at hl
  ·rename_i hu
   injection hl with hl
   obtain ⟨v,hv,hc⟩ := one none hl.symm;simp [part,Sem.run_bind,isAgg,run_underlying hu,hc,hv,zig,zkX,hu,zfT]
  ·rename_i k0 hu
   injection hl with hl
   obtain ⟨v,hv,hc⟩ := one (some k0) hl.symm;simp [part,Sem.run_bind,isAgg,run_underlying hu,hc,hv,zig,zkX,hu,zfT]
  ·rename_i fs hu
   simp [part,Sem.run_bind,isAgg,run_underlying hu,zig,zkX,hu,zfT,sizeOf,typeInfo,hi0,hsz,ext]
  ·rename_i n e hu
   simp [part,Sem.run_bind,isAgg,run_underlying hu,zig,zkX,hu,zfT,sizeOf,typeInfo,hi0,hsz,ext]
  ·cases hl
theorem zgj (body : Field → Option Bool × Unit → Sem (ForInStep (Option Bool × Unit)))(q : Field → Bool)(w : World) : ∀ l : List Field,
  (∀ f ∈ l,(body f (none,())).run P w = .ok (if q f then .yield (none,()) else .done (some false,())) w) →
  (forIn l (none,()) body).run P w = .ok (if l.all q then (none,()) else (some false,())) w
 | [],_ => by simp
 | f :: r,h => by
  rw [List.forIn_cons,Sem.run_bind,h f (by simp)]
  cases hq : q f with
  | true => simp [hq,zgj body q w r (fun g hg => h g (by simp [hg]))]
  | false => simp [hq]
theorem zih (body : Nat → Option Bool × Unit → Sem (ForInStep (Option Bool × Unit)))(q : Nat → Bool)(w : World) : ∀ l : List Nat,
  (∀ f ∈ l,(body f (none,())).run P w = .ok (if q f then .yield (none,()) else .done (some false,())) w) →
  (forIn l (none,()) body).run P w = .ok (if l.all q then (none,()) else (some false,())) w
 | [],_ => by simp
 | f :: r,h => by
  rw [List.forIn_cons,Sem.run_bind,h f (by simp)]
  cases hq : q f with
  | true => simp [hq,zih body q w r (fun g hg => h g (by simp [hg]))]
  | false => simp [hq]
theorem zdb.split {a b : List (Option IntKind)}{zs : List Value}(h : zdb (a ++ b) zs) : zdb a (zs.take a.length) ∧ zdb b (zs.drop a.length) := by
 have hl := h.1;rw [List.length_append] at hl;refine ⟨⟨by rw [ztW]; omega,fun i k v hk hv => ?_⟩,⟨by rw [List.length_drop]; omega,fun i k v hk hv => ?_⟩⟩
 ·have hi : i < a.length := (ztt.1 hk).1
  rw [zud,if_pos hi] at hv;exact h.2 i k v (by rw [ztJ hi]; exact hk) hv
 ·rw [zt4] at hv
  exact h.2 (a.length + i) k v (by rw [zuh (by omega),Nat.add_sub_cancel_left]; exact hk) hv
theorem zgU {g : TypeId → Option (List (Option IntKind))}{zs : List Value} : ∀ (fs : List Field) (off : Nat) (ks : List (Option IntKind)),zdQ g fs off = some ks → zdb ks ((zs.drop off).take ks.length) →
  ∀ f ∈ fs,∀ a,g f.type = some a → zdb a ((zs.drop f.offset).take a.length)
 | [],off,ks,_,_ => by simp
 | f :: r,off,ks,h,hz => by
  unfold zdQ at h
  split at h
  ·rename_i ho
   obtain ⟨a,ha,h2⟩ := ztQ.1 h;obtain ⟨b,hb,rfl⟩ := ztC.1 h2;obtain ⟨s1,s2⟩ := hz.split;rw [List.length_append,List.take_take,Nat.min_eq_left (by omega)] at s1;rw [List.length_append,List.drop_take,zt7,Nat.add_sub_cancel_left] at s2;intro f' hf' a' ha'
   rcases ztM.1 hf' with rfl | hf'
   ·rw [ha] at ha'; cases ha'; rw [ho]; exact s1
   ·exact zgU r _ b hb s2 f' hf' a' ha'
  ·cases h
theorem zna {l : List (Option IntKind)}{zs : List Value} : ∀ (n off : Nat),zdb (List.replicate n l).flatten ((zs.drop off).take (n * l.length)) → ∀ i,i < n → zdb l ((zs.drop (off + i * l.length)).take l.length)
 | 0,_,_ => by intro i hi; omega
 | n + 1,off,h => by
  rw [List.replicate_succ,List.flatten_cons] at h;obtain ⟨s1,s2⟩ := h.split;rw [List.take_take,Nat.min_eq_left (by rw [ztR]; omega)] at s1;rw [List.drop_take,zt7,show (n + 1) * l.length - l.length = n * l.length by rw [ztR]; omega] at s2;intro i hi
  cases i with
  | zero => simpa using s1
  | succ i =>
   have := zna n _ s2 i (by omega)
   rwa [show off + (i + 1) * l.length = off + l.length + i * l.length by rw [ztR]; omega]
theorem zii {g : TypeId → Option (List (Option IntKind))}{xs ys : List Value}(hl : xs.length = ys.length) : ∀ (fs : List Field) (off : Nat) (ks : List (Option IntKind)),zdQ g fs off = some ks →
  eqL ((xs.drop off).take ks.length) ((ys.drop off).take ks.length) = fs.all fun f => eqL ((xs.drop f.offset).take ((g f.type).getD []).length) ((ys.drop f.offset).take ((g f.type).getD []).length)
 | [],off,ks,h => by
  simp [zdQ] at h;subst h;simp [eqL]
 | f :: r,off,ks,h => by
  unfold zdQ at h
  split at h
  ·rename_i ho
   obtain ⟨a,ha,h2⟩ := ztQ.1 h;obtain ⟨b,hb,rfl⟩ := ztC.1 h2;rw [List.length_append,List.take_add,List.take_add,zt7,zt7,ze6 _ _ _ _ (by simp [hl]),List.all_cons,ha,ho,zii hl r _ b hb]
   rfl
  ·cases h
theorem zpP {xs ys : List Value}(hl : xs.length = ys.length)(c : Nat) : ∀ (n off : Nat),
  eqL ((xs.drop off).take (n * c)) ((ys.drop off).take (n * c)) = (List.range' 0 n).all fun i => eqL ((xs.drop (off + i * c)).take c) ((ys.drop (off + i * c)).take c)
 | 0,off => by simp [eqL]
 | n + 1,off => by
  rw [show (n + 1) * c = n * c + c by rw [ztR],List.take_add,List.take_add,zt7,zt7,ze6 _ _ _ _ (by simp [hl]),zpP hl c n off,List.range'_concat,List.all_append];simp
theorem zgk {m : Nat}{t : TypeId}(h : zm9 P m t = true) : (P.info? t).isSome = true := by
 cases m with
 | zero => simp [zm9] at h
 | succ m => unfold zm9 at h; simp only [ztr] at h; exact h.1
theorem znb (w : World) : ∀ (m : Nat) (t : TypeId) (ks : List (Option IntKind)) (xs ys : List Value) (d : Nat),m ≤ d → zcy P m t = some ks → zm9 P m t = true → zdb ks xs → zdb ks ys →
  (Op.equalIn d t (zig P t xs) (zig P t ys)).run P w = .ok (eqL xs ys) w := by
 intro m
 induction m with
 | zero => intro t ks xs ys d _ h; simp [zcy] at h
 | succ m ih =>
  intro t ks xs ys d hd hk he hx hy;obtain ⟨d,rfl⟩ : ∃ d',d = d' + 1 := ⟨d - 1,by omega⟩;have hd' : m ≤ d := by omega
  have hlen := zcY hk;obtain ⟨i0,hi0⟩ := Option.isSome_iff_exists.1 (zgk he);unfold zcy at hk;obtain ⟨l,hl,h2⟩ := ztQ.1 hk;have hlk : l = ks := by
   split at h2
   ·injection h2
   ·cases h2
  subst hlk;unfold zm9 at he;simp only [ztr] at he;have he2 := he.2;have hxy : xs.length = ys.length := by rw [hx.1,hy.1]
  split at hl
  ·rename_i hu
   injection hl with hl
   subst hl
   match xs,hx.1,ys,hy.1 with
   | [x],_,[y],_ =>
    obtain ⟨b,rfl⟩ := hx.2 0 none x rfl rfl;obtain ⟨c,rfl⟩ := hy.2 0 none y rfl rfl;simp [Op.equalIn,run_underlying hu,zig,zkX,hu,zfT,eqL,eqV]
  ·rename_i k0 hu
   injection hl with hl
   subst hl
   match xs,hx.1,ys,hy.1 with
   | [x],_,[y],_ =>
    obtain ⟨b,rfl,_⟩ := hx.2 0 (some k0) x rfl rfl;obtain ⟨c,rfl,_⟩ := hy.2 0 (some k0) y rfl rfl;simp [Op.equalIn,run_underlying hu,zig,zkX,hu,zfT,eqL,eqV]
  ·rename_i fs hu
   rw [hu] at he2;simp only [ztr,zui] at he2;have hv : ∀ zs : List Value,zig P t zs = .agg zs.toArray := fun zs => by simp [zig,zkX,hu,zfT]
   have hall := zt8.1 he2.2;have hfl : ∀ f ∈ fs.toList,∃ a,zcy P m f.type = some a := fun f hf => by
    clear hx hy hv ih hall he2 he hxy hi0 hlen hk h2;generalize fs.toList = L at hl hf;generalize 0 = off at hl;revert off l
    induction L with
    | nil => simp at hf
    | cons g r ihr =>
     intro l off hl;unfold zdQ at hl
     split at hl
     ·obtain ⟨a,ha,h3⟩ := ztQ.1 hl
      obtain ⟨b,hb,_⟩ := ztC.1 h3
      rcases ztM.1 hf with rfl | hf
      ·exact ⟨a,ha⟩
      ·exact ihr hf b _ hb
     ·cases hl
   have hsl : ∀ zs : List Value,zdb l zs → ∀ f ∈ fs.toList,∀ a,zcy P m f.type = some a → zdb a ((zs.drop f.offset).take a.length) := fun zs hz f hf a ha => by
    exact zgU fs.toList 0 l hl (by rw [List.drop_zero,ztN (by rw [hz.1]; exact ztn _)]; exact hz) f hf a ha
   rw [hv,hv];simp only [Op.equalIn,Sem.run_bind,run_underlying hu,Result.andThen_ok,run_program,he2.1];simp only [ztL,if_false,Sem.run_bind,Sem.run_pure,Result.andThen_ok,← Array.forIn_toList];rw [zgj _ (fun f => eqL ((xs.drop f.offset).take ((zcy P m f.type).getD []).length) ((ys.drop f.offset).take ((zcy P m f.type).getD []).length)) w fs.toList (fun f hf => by
    obtain ⟨a,ha⟩ := hfl f hf;have h3 := hall f hf;simp only [ztr,bne_iff_ne,ne_eq] at h3;have hi := zgk h3.2;have p1 := zeD ha hi xs f.offset (hsl xs hx f hf a ha) w;have p2 := zeD ha hi ys f.offset (hsl ys hy f hf a ha) w;have p3 := ih f.type a _ _ d hd' ha h3.2 (hsl xs hx f hf a ha) (hsl ys hy f hf a ha);rw [ha];simp only [h3.1,ne_eq,not_false_eq_true,if_true,if_false,Sem.run_bind,p1,p2,p3,Result.andThen_ok,Option.getD_some]
    rcases Bool.eq_false_or_eq_true (eqL (List.take a.length (List.drop f.offset xs)) (List.take a.length (List.drop f.offset ys))) with hb | hb <;> simp [hb])]
   have hq := zii hxy fs.toList 0 l hl;rw [List.drop_zero,List.drop_zero,ztN (by rw [hx.1]; exact ztn _),ztN (by rw [hy.1]; exact ztn _)] at hq;rw [hq];generalize (fs.toList.all fun f => eqL (List.take ((zcy P m f.type).getD []).length (List.drop f.offset xs)) (List.take ((zcy P m f.type).getD []).length (List.drop f.offset ys))) = b
   cases b <;> simp
  ·rename_i n e hu
   rw [hu] at he2;have hv : ∀ zs : List Value,zig P t zs = .agg zs.toArray := fun zs => by simp [zig,zkX,hu,zfT]
   obtain ⟨a,ha,rfl⟩ := ztC.1 hl;have hi := zgk he2;obtain ⟨ie,hie⟩ := Option.isSome_iff_exists.1 hi;have hsz : ie.size = a.length := by rw [← zcY ha]; simp [Program.cellsOf,hie]
   have hn : (List.replicate n a).flatten.length = n * a.length := by simp
   have hsl : ∀ zs : List Value,zdb (List.replicate n a).flatten zs → ∀ i,i < n → zdb a ((zs.drop (i * a.length)).take a.length) := fun zs hz i hi' => by
    have := zna (l := a) (zs := zs) n 0 (by rw [List.drop_zero,ztN (by rw [hz.1,hn]; exact ztn _)]; exact hz) i hi'
    rwa [ztO] at this
   rw [hv,hv];simp only [Op.equalIn,Sem.run_bind,run_underlying hu,Result.andThen_ok,sizeOf,typeInfo,run_program,hie,Sem.run_pure,hsz];simp only [Std.Legacy.Range.forIn_eq_forIn_range'];rw [zih _ (fun i => eqL ((xs.drop (0 + i * a.length)).take a.length) ((ys.drop (0 + i * a.length)).take a.length)) w _ (fun i hi' => by
    have hin : i < n := by
     have := List.mem_range'_1.1 hi';simp [Std.Legacy.Range.size] at this;omega
    have p1 := zeD ha hi xs (i * a.length) (hsl xs hx i hin) w;have p2 := zeD ha hi ys (i * a.length) (hsl ys hy i hin) w;have p3 := ih e a _ _ d hd' ha he2 (hsl xs hx i hin) (hsl ys hy i hin);rw [ztO];simp only [Sem.run_bind,p1,p2,p3,Result.andThen_ok]
    rcases Bool.eq_false_or_eq_true (eqL (List.take a.length (List.drop (i * a.length) xs)) (List.take a.length (List.drop (i * a.length) ys))) with hb | hb <;> simp [hb])]
   have hq := zpP hxy a.length n 0;rw [List.drop_zero,List.drop_zero,ztN (by rw [hx.1,hn]; exact ztn _),ztN (by rw [hy.1,hn]; exact ztn _)] at hq;rw [hq,show [:n].size = n by simp [Std.Legacy.Range.size]];generalize ((List.range' 0 n).all fun i => eqL (List.take a.length (List.drop (0 + i * a.length) xs)) (List.take a.length (List.drop (0 + i * a.length) ys))) = b
   cases b <;> simp
  ·cases hl
theorem zfi {m : Nat}{t : TypeId}{ks : List (Option IntKind)}{xs ys : List Value}(hm : m ≤ 10000)(hk : zcy P m t = some ks)(he : zm9 P m t = true)(ha : zkX P t = true)(hx : zdb ks xs)(hy : zdb ks ys)(w : World) :
  (binOp .eql t (.agg xs.toArray) (.agg ys.toArray)).run P w = .ok (.bool (eqL xs ys)) w := by
 have h := znb w m t ks xs ys 10000 hm hk he hx hy;have hv : ∀ zs : List Value,zig P t zs = .agg zs.toArray := fun zs => by simp [zig,ha]
 rw [hv,hv] at h;simp [binOp,Op.equal,Op.maxDepth,h]
theorem zij {m : Nat}{t : TypeId}{ks : List (Option IntKind)}{xs ys : List Value}(hm : m ≤ 10000)(hk : zcy P m t = some ks)(he : zm9 P m t = true)(ha : zkX P t = true)(hx : zdb ks xs)(hy : zdb ks ys)(w : World) :
  (binOp .neq t (.agg xs.toArray) (.agg ys.toArray)).run P w = .ok (.bool (!eqL xs ys)) w := by
 have h := znb w m t ks xs ys 10000 hm hk he hx hy;have hv : ∀ zs : List Value,zig P t zs = .agg zs.toArray := fun zs => by simp [zig,ha]
 rw [hv,hv] at h;simp [binOp,Op.equal,Op.maxDepth,h]
end
end
section
def I8 (x : Int) : Prop := -128 ≤ x ∧ x < 128
def I64 (x : Int) : Prop := -9223372036854775808 ≤ x ∧ x < 9223372036854775808
structure ID where
 kind : Int
 op : Int
 width : Int
 size : Int
 byReg : Bool
 dst : Int
 src : Int
 off : Int
 imm : Int
def ID.cells (x : ID) : List Value := [.int .i8 x.kind,.int .i8 x.op,.int .i8 x.width,.int .i8 x.size,.bool x.byReg,.int .i8 x.dst,.int .i8 x.src,.int .i64 x.off,.int .i64 x.imm]
def ID.wf (x : ID) : Prop := I8 x.kind ∧ I8 x.op ∧ I8 x.width ∧ I8 x.size ∧ I8 x.dst ∧ I8 x.src ∧ I64 x.off ∧ I64 x.imm
theorem ID.one (x : ID) : ∀ u ∈ x.cells,u.oneCell' = true := by
 intro v hv;unfold ID.cells at hv;simp only [ztM,zt5,or_false] at hv
 rcases hv with rfl | rfl | rfl | rfl | rfl | rfl | rfl | rfl | rfl <;> rfl
theorem ID.cells_inj {x y : ID}(h : x.cells = y.cells) : x = y := by
 unfold ID.cells at h;simp only [List.cons.injEq,Value.int.injEq,Value.bool.injEq,true_and,and_true] at h;obtain ⟨h0,h1,h2,h3,h4,h5,h6,h7,h8⟩ := h
 cases x
 cases y
 simp_all
def zc5 : List (Option IntKind) := [some .i8,some .i8,some .i8,some .i8,none,some .i8,some .i8,some .i64,some .i64]
theorem wf_i8 {x : Int}(h : I8 x) : (Lit.int .i8 x).wf = true := by unfold I8 at h; exact WalkArith.wf_i8 (by omega)
theorem wf_i64 {x : Int}(h : I64 x) : (Lit.int .i64 x).wf = true := by unfold I64 at h; exact WalkArith.wf_i64 (by omega)
theorem ID.all {x : ID}(h : x.wf) : zdb zc5 x.cells := by
 obtain ⟨h0,h1,h2,h3,h5,h6,h7,h8⟩ := h;refine ⟨rfl,fun i k v hk hv => ?_⟩
 match i with
 | 0 => simp [zc5,ID.cells] at hk hv; subst hk hv; exact ⟨_,rfl,wf_i8 h0⟩
 | 1 => simp [zc5,ID.cells] at hk hv; subst hk hv; exact ⟨_,rfl,wf_i8 h1⟩
 | 2 => simp [zc5,ID.cells] at hk hv; subst hk hv; exact ⟨_,rfl,wf_i8 h2⟩
 | 3 => simp [zc5,ID.cells] at hk hv; subst hk hv; exact ⟨_,rfl,wf_i8 h3⟩
 | 4 => simp [zc5,ID.cells] at hk hv; subst hk hv; exact ⟨_,rfl⟩
 | 5 => simp [zc5,ID.cells] at hk hv; subst hk hv; exact ⟨_,rfl,wf_i8 h5⟩
 | 6 => simp [zc5,ID.cells] at hk hv; subst hk hv; exact ⟨_,rfl,wf_i8 h6⟩
 | 7 => simp [zc5,ID.cells] at hk hv; subst hk hv; exact ⟨_,rfl,wf_i64 h7⟩
 | 8 => simp [zc5,ID.cells] at hk hv; subst hk hv; exact ⟨_,rfl,wf_i64 h8⟩
 | i + 9 => simp [zc5] at hk
theorem zsb {r : List Value}(h : zdb zc5 r) : ∃ x : ID,x.wf ∧ r = x.cells := by
 obtain ⟨hl,hk⟩ := h
 match r,hl with
 | [c0,c1,c2,c3,c4,c5,c6,c7,c8],_ =>
  obtain ⟨n0,rfl,w0⟩ := hk 0 _ _ rfl rfl;obtain ⟨n1,rfl,w1⟩ := hk 1 _ _ rfl rfl;obtain ⟨n2,rfl,w2⟩ := hk 2 _ _ rfl rfl;obtain ⟨n3,rfl,w3⟩ := hk 3 _ _ rfl rfl;obtain ⟨n4,rfl⟩ := hk 4 _ _ rfl rfl;obtain ⟨n5,rfl,w5⟩ := hk 5 _ _ rfl rfl;obtain ⟨n6,rfl,w6⟩ := hk 6 _ _ rfl rfl;obtain ⟨n7,rfl,w7⟩ := hk 7 _ _ rfl rfl;obtain ⟨n8,rfl,w8⟩ := hk 8 _ _ rfl rfl;have a0 := bounds_i8 w0; have a1 := bounds_i8 w1; have a2 := bounds_i8 w2; have a3 := bounds_i8 w3; have a5 := bounds_i8 w5; have a6 := bounds_i8 w6; have a7 := bounds_i64 w7; have a8 := bounds_i64 w8;refine ⟨⟨n0,n1,n2,n3,n4,n5,n6,n7,n8⟩,?_,rfl⟩;unfold ID.wf I8 I64;dsimp only;omega
theorem znc : ∀ rows : List (List Value),(∀ r ∈ rows,zdb zc5 r) → ∃ l : List ID,l.length = rows.length ∧ (∀ x ∈ l,x.wf) ∧ rows.flatten = l.flatMap ID.cells
 | [],_ => ⟨[],rfl,by simp,rfl⟩
 | r :: t,h => by
  obtain ⟨x,hx,rfl⟩ := zsb (h r (by simp));obtain ⟨l,h1,h2,h3⟩ := znc t (fun q hq => h q (by simp [hq]));refine ⟨x :: l,by simp [h1],fun y hy => ?_,by simp [h3]⟩
  rcases ztM.1 hy with rfl | hy
  ·exact hx
  ·exact h2 y hy
theorem ze7 {α β : Type}(f : α → List β)(m : Nat) : ∀ (l : List α),(∀ x ∈ l,(f x).length = m) → ∀ (k j : Nat) (x : α) (u : β),l[k]? = some x → (f x)[j]? = some u → (l.flatMap f)[k * m + j]? = some u
 | [],_,k,j,x,u,hk,_ => by simp at hk
 | y :: r,hl,k,j,x,u,hk,hu => by
  rw [zuf];have hy := hl y (by simp)
  cases k with
  | zero =>
   simp at hk;subst hk;have hj : j < (f y).length := (ztt.1 hu).1;rw [Nat.zero_mul,ztO,ztJ hj,hu]
  | succ k =>
   have := ze7 f m r (fun z hz => hl z (by simp [hz])) k j x u (by simpa using hk) hu;rw [zuh (by rw [hy,ztR]; omega),hy,show (k + 1) * m + j - m = k * m + j by rw [ztR]; omega];exact this
def zcJ (w : World)(B : Nat)(A : Option Addr)(n : Nat)(l : List ID) : Prop := l.length = n ∧ (∀ x ∈ l,x.wf) ∧ zaU w B 9 A n (l.flatMap ID.cells)
section
variable {w w' : World}{B n : Nat}{A : Option Addr}{l : List ID}
theorem zcJ.at_ {k : Nat}(h : zcJ w B A n l)(hk : k < n) : ∃ ad x,A = some ad ∧ ad.block < B ∧ l[k]? = some x ∧ x.wf ∧ ∀ j u,x.cells[j]? = some u → w.cell? ((ad.add (k * 9)).add j) = some u := by
 obtain ⟨h1,h2,h3⟩ := h;obtain ⟨ad,e,hb,hc⟩ := h3.2 (by omega);have hx : l[k]? = some l[k] := ztq (by omega);refine ⟨ad,l[k],e,hb,hx,h2 _ (ztU _),fun j u hu => ?_⟩;rw [za0];exact hc _ u (ze7 ID.cells 9 l (fun z hz => rfl) k j _ u hx hu)
theorem zcJ.below (h : zcJ w B A n l)(hb : Below B w w') : zcJ w' B A n l := ⟨h.1,h.2.1,h.2.2.below hb⟩
theorem zcJ.up (h : zcJ w B A n l)(hb : Below B w w')(hz : B ≤ w'.heap.size) : zcJ w' w'.heap.size A n l := ⟨h.1,h.2.1,(h.2.2.below hb).more hz⟩
theorem zcJ.alloc (h : zcJ w B A n l)(hB : B ≤ w.heap.size)(o : Obj) : zcJ (w.alloc o) B A n l := ⟨h.1,h.2.1,h.2.2.alloc hB o⟩
end
/-! ### which may be -/
def inB (n a b : Int) : Bool := decide (a ≤ n) && decide (n ≤ b)
def szB (n : Int) : Bool := n == 1 || n == 2 || n == 4 || n == 8
def zq7 (x : ID) : Bool := inB x.dst 0 10 && inB x.src 0 10 && inB x.off (-32768) 32767 && inB x.imm (-2147483648) 2147483647
def kz (k : Int) : ID := ⟨k,0,0,0,false,0,0,0,0⟩
def zcK (x : ID) : Bool :=
 if x.kind = 0 then inB x.op 0 12 && (x.width == 32 || x.width == 64) && decide (x.dst < 10) && (x.op != 8 || (!x.byReg && x.imm == 0))
 else if x.kind = 1 then szB x.size && decide (x.dst < 10)
 else if x.kind = 2 then szB x.size
 else if x.kind = 3 then inB x.op 0 10
 else if x.kind = 4 then true
 else if x.kind = 5 then inB x.imm 0 15
 else if x.kind = 6 then true
 else false
def znd (x : ID) : ID := if x.byReg then { x with src := 0,byReg := false } else { x with imm := 0,byReg := false }
def zdh (x : ID) : ID :=
 if x.kind = 0 then { znd x with op := 0,width := 0,dst := 0 }
 else if x.kind = 1 then { x with size := 0,dst := 0,src := 0,off := 0 }
 else if x.kind = 2 then { x with size := 0,dst := 0,src := 0,off := 0 }
 else if x.kind = 3 then { znd x with op := 0,dst := 0,off := 0 }
 else if x.kind = 4 then { x with off := 0 }
 else if x.kind = 5 then { x with imm := 0 }
 else x
def ze8 (x : ID) : Bool := zq7 x && (zcK x && eqL (zdh x).cells (kz x.kind).cells)
def zcE (i : Int)(x : ID) : Bool := (x.kind == 3 || x.kind == 4) && inB i (-1099511627776) 1099511627776 && inB x.off (-1099511627776) 1099511627776
def zdE (i : Int)(x : ID) : Int := if zcE i x then i + 1 + x.off else 0
end
section
section
variable {P : Program}{w : World}
theorem zgl (ty : TypeId)(ad : Addr)(d : TypeDesc)(v : Value)(hu : P.underlying ty = some d)(hd : zfT d = false)(hc : w.cell? ad = some v) : (loadVar ty ad).run P w = .ok v w := by
 have hagg : (isAgg ty).run P w = .ok false w := by
  unfold isAgg;rw [Sem.run_bind,run_underlying hu w]
  cases d <;> simp_all [zfT]
 simp [loadVar,Sem.run_bind,hagg,hc,go_sem]
theorem zaE (ty : TypeId)(g j : Nat)(te : TypeId)(cs : Array Value)(v : Value)(hb : Blk w g te cs)(hj : j < cs.size)(hi : (P.info? ty).map (·.size) = some 1)(hv : v.cells = #[v])(h1 : v.oneCell' = true) : (storeVar ty ⟨g,j,none⟩ v).run P w = .ok () (w.setCell ⟨g,j,none⟩ v) := by
 have hc : w.cell? ⟨g,j,none⟩ = some cs[j] := by rw [hb.cell]; simp [hj]
 have hf := hb.frozen j
 cases hq : P.info? ty with
 | none => simp [hq] at hi
 | some i =>
  have hs : i.size = 1 := by simpa [hq] using hi
  have h2 : (store ⟨g,j,none⟩ v).run P w = .ok () (w.setCell ⟨g,j,none⟩ v) := (run_store P w _ _ _ h1).trans (by simp [stored,hc,hf]);have ha : (⟨g,j,none⟩ : Addr).add 0 = ⟨g,j,none⟩ := rfl;simp [storeVar,Sem.run_bind,sizeOf,typeInfo,hq,hs,hv,storeCells,ha,h2]
end
section
variable {P : Program}{ops : Array Oper}{Q : Exit → Act → World → Prop}{md : Region.Mode}{T S : World → Prop}{late : List Nat}{fuel : Nat}{listed : Array Bool}{a : Act}{w : World}
theorem zsc (b : Bool)(i : Nat)(d : Option Tmp)(ty : TypeId)(x : Operand)(ad : Addr)(cs : List Value)(de : TypeDesc)(ho : zc6 ops i = some (d,.load ty x))(hc : zbv md ops late listed i b = true)(hw : zaS ops i a = some true)
  (hQ : ∀ c u w,Q (.panic c) (Act.put u d (.agg cs.toArray)) w → Q (.panic c) u w) (hx : a.eval x = .pointer (some ad)) (hl : ∀ w,SS T S b w → ∀ j u,cs[j]? = some u → w.cell? (ad.add j) = some u)
  (hu : P.underlying ty = some de) (hd : zfT de = true) (hi : (P.info? ty).map (·.size) = some cs.length) (hS : St T S late listed w) (h : zas P md ops Q T S late fuel (listed.setIfInBounds i true) (a.put d (.agg cs.toArray)) w) : zas P md ops Q T S late (fuel + 1) listed a w :=
 zd8 b i d _ _ ho hc hw (fun c u w => hQ c u w) (fun o e w hS => by
  unfold execOp;simp only [e,hx,Instr.loadAt,Instr.sureAddr,Sem.run_bind,Sem.run_pure,Result.andThen_ok,zaC w ad ty cs de (hl w hS) hu hd hi]) hS h
theorem zqP (b : Bool)(i : Nat)(d : Option Tmp)(ty : TypeId)(x : Operand)(ad : Addr)(v : Value)(ho : zc6 ops i = some (d,.load ty x))(hc : zbv md ops late listed i b = true)(hw : zaS ops i a = some true)
  (hQ : ∀ c a w,Q (.panic c) (a.put d v) w → Q (.panic c) a w) (hx : a.eval x = .pointer (some ad)) (hl : ∀ w,SS T S b w → (loadVar ty ad).run P w = .ok v w)
  (hS : St T S late listed w) (h : zas P md ops Q T S late fuel (listed.setIfInBounds i true) (a.put d v) w) : zas P md ops Q T S late (fuel + 1) listed a w :=
 zd8 b i d _ _ ho hc hw hQ (fun o e w hS => by
  unfold execOp;simp only [e,hx,Instr.loadAt,Instr.sureAddr,Sem.run_bind,Sem.run_pure,Result.andThen_ok,hl w hS]) hS h
theorem zne (i : Nat)(d : Option Tmp)(b : BinOp)(t yt : TypeId)(x y : Operand)(u z v : Value)(ho : zc6 ops i = some (d,.binOp b t x y yt))(hc : zbv md ops late listed i false = true)(hw : zaS ops i a = some true)
  (hQ : ∀ c a w,Q (.panic c) (a.put d v) w → Q (.panic c) a w) (hx : a.eval x = u) (hy : a.eval y = z) (hr : ∀ w,(do eqGuard b t x y u z; binOp b t u z : Sem Value).run P w = .ok v w)
  (hS : St T S late listed w) (h : zas P md ops Q T S late fuel (listed.setIfInBounds i true) (a.put d v) w) : zas P md ops Q T S late (fuel + 1) listed a w :=
 zd8 false i d _ _ ho hc hw hQ (fun o e w hS => by
  unfold execOp;have := hr w;simp only [e,hx,hy,Sem.run_bind,Sem.run_pure] at this ⊢;rw [this]
  rfl) hS h
theorem zar.store_whole (i : Nat)(ty : TypeId)(x y : Operand)(g : Nat)(Z X : List Value)(ho : zc6 ops i = some (none,.store ty x y))(hw : zaS ops i a = some true)(hB : Blk w g ty Z.toArray)
  (hx : a.eval x = .pointer (some ⟨g,0,none⟩)) (hy : a.eval y = .agg X.toArray) (hi : (P.info? ty).map (·.size) = some X.length) (hl : Z.length = X.length) (h1 : ∀ u ∈ X,u.oneCell' = true)
  (hK : ∀ w',Blk w' g ty X.toArray → w.grownBy w' (some g) → St T S late (listed.setIfInBounds i true) w' ∧ zas P md ops Q T S late fuel (listed.setIfInBounds i true) (a.put none undef) w') : zar P md ops Q T S late fuel listed a w i :=
 zar.of i none _ ho hw fun o K h2 h3 hKK => by
  unfold Oper.wp execOp;simp only [h3,hx,hy,Instr.storeAt,Instr.sureAddr,Sem.run_bind,Sem.run_pure,Result.andThen_ok,zaX w g 0 ty ty Z X (.agg X.toArray) hB rfl hi (by omega) h1];rw [Oper.upon_skip,h2];have hov : zaM Z 0 X = X := by
   unfold zaM;rw [zt6,List.nil_append,ztO,ztV (by omega),ztE]
  have hxx := setRow_heap w g _ (zaM Z 0 X).toArray ty (0,0) hB;rw [hov] at hxx ⊢;have := hK _ hxx (zaD w g _);exact hKK _ _ this.1 this.2
theorem zar.store_cell (i : Nat)(ty te : TypeId)(x y : Operand)(g j : Nat)(cs : Array Value)(v : Value)(ho : zc6 ops i = some (none,.store ty x y))(hw : zaS ops i a = some true)(hB : Blk w g te cs)
  (hx : a.eval x = .pointer (some ⟨g,j,none⟩)) (hy : a.eval y = v) (hr : (storeVar ty ⟨g,j,none⟩ v).run P w = .ok () (w.setCell ⟨g,j,none⟩ v))
  (hK : ∀ w',Blk w' g te (cs.setIfInBounds j v) → w.grownBy w' (some g) → St T S late (listed.setIfInBounds i true) w' ∧ zas P md ops Q T S late fuel (listed.setIfInBounds i true) (a.put none undef) w') : zar P md ops Q T S late fuel listed a w i :=
 zar.of i none _ ho hw fun o K h2 h3 hKK => by
  unfold Oper.wp execOp;simp only [h3,hx,hy,Instr.storeAt,Instr.sureAddr,Sem.run_bind,Sem.run_pure,Result.andThen_ok,hr];rw [Oper.upon_skip,h2];have := hK _ (hB.set_ j v) ⟨rfl,rfl,rfl,by simp,fun k _ hk => heap_setCell_other w ⟨g,j,none⟩ k v (fun e => hk (by simp [e]))⟩;exact hKK _ _ this.1 this.2
theorem zar.slice_one (i : Nat)(d : Option Tmp)(t e : TypeId)(x : Operand)(i0 : TypeInfo)(z v : Value)(ho : zc6 ops i = some (d,.buildSlice t 1 #[(0,x)]))(hw : zaS ops i a = some true)(ht : P.underlying t = some (.slice e))(hi : P.info? e = some i0)(hz : i0.zero = some z)
  (hs : i0.size ≤ 1024) (h0 : 0 < i0.size) (hx : a.eval x = v) (hv : v.cells.size = i0.size)
  (hK : ∀ w' g,w.heap.size ≤ g → Blk w' g e v.cells → Below w.heap.size w w' → St T S late (listed.setIfInBounds i true) w' ∧ zas P md ops Q T S late fuel (listed.setIfInBounds i true) (a.put d (.slice (some ⟨g,0,none⟩) 1 1)) w') : zar P md ops Q T S late fuel listed a w i :=
 zar.of i d _ ho hw fun o K h2 h3 hKK => by
  unfold Oper.wp execOp;have hrun := zbM (P := P) w t e i0 z v ht hi hz hs h0 hv;simp only [h3,Sem.run_bind,ztD,ztz,ztA,hx,hrun,Result.andThen_ok,Sem.run_pure];have := hK _ _ (ztn _) (Blk.new w e v.cells) ((Below.refl _ _).alloc (ztn _) _);rw [Oper.upon_value,h2];exact hKK _ _ this.1 this.2
theorem zdW (i : Nat)(d : Option Tmp)(st : TypeId)(x : Operand)(f : Nat)(ad ad' : Addr)(ho : zc6 ops i = some (d,.fieldAddr st x f))(hc : zbv md ops late listed i false = true)(hw : zaS ops i a = some true)
  (hQ : ∀ c a w,Q (.panic c) (a.put d (.pointer (some ad'))) w → Q (.panic c) a w) (hx : a.eval x = .pointer (some ad)) (hr : ∀ w,(Instr.fieldAt st (.pointer (some ad)) f).run P w = .ok (.pointer (some ad')) w)
  (hS : St T S late listed w) (h : zas P md ops Q T S late fuel (listed.setIfInBounds i true) (a.put d (.pointer (some ad'))) w) : zas P md ops Q T S late (fuel + 1) listed a w :=
 zd8 false i d _ _ ho hc hw hQ (fun o e w _ => by
  unfold execOp;simp only [e,hx,Sem.run_bind,hr,Result.andThen_ok,Sem.run_pure]) hS h
theorem zar.extract (i : Nat)(d : Option Tmp)(x : Operand)(k : Nat)(vs : Array Value)(v : Value)(ho : zc6 ops i = some (d,.extract x k))(hw : zaS ops i a = some true)(hx : a.eval x = .tuple vs)(hv : vs[k]? = some v)
  (hS : St T S late (listed.setIfInBounds i true) w) (h : zas P md ops Q T S late fuel (listed.setIfInBounds i true) (a.put d v) w) : zar P md ops Q T S late fuel listed a w i :=
 zar.run i d _ v w ho hw (fun o e => by
  unfold execOp;simp [e,hx,Instr.extract,hv]) hS h
theorem zar.nil (i : Nat)(d : Option Tmp)(x : Operand)(ad : Addr)(ho : zc6 ops i = some (d,.nilCheck x))(hw : zaS ops i a = some true)(hx : a.eval x = .pointer (some ad))
  (hS : St T S late (listed.setIfInBounds i true) w) (h : zas P md ops Q T S late fuel (listed.setIfInBounds i true) (a.put d (.pointer (some ad))) w) : zar P md ops Q T S late fuel listed a w i :=
 zar.run i d _ _ w ho hw (fun o e => by unfold execOp; simp [e,hx]) hS h
theorem zar.field (i : Nat)(d : Option Tmp)(st : TypeId)(x : Operand)(f : Nat)(ad ad' : Addr)(ho : zc6 ops i = some (d,.fieldAddr st x f))(hw : zaS ops i a = some true)(hx : a.eval x = .pointer (some ad))(hr : ∀ w,(Instr.fieldAt st (.pointer (some ad)) f).run P w = .ok (.pointer (some ad')) w)
  (hS : St T S late (listed.setIfInBounds i true) w) (h : zas P md ops Q T S late fuel (listed.setIfInBounds i true) (a.put d (.pointer (some ad'))) w) : zar P md ops Q T S late fuel listed a w i :=
 zar.run i d _ _ w ho hw (fun o e => by
  unfold execOp;simp only [e,hx,Sem.run_bind,hr,Result.andThen_ok,Sem.run_pure]) hS h
theorem zar.append (i : Nat)(d : Option Tmp)(t e : TypeId)(s x : Operand)(base : Nat)(i0 : TypeInfo)(z : Value)(size bytes : Nat)(ho : zc6 ops i = some (d,.call { callee := .builtin .append,args := #[s,x],argTypes := #[t,t] }))(hw : zaS ops i a = some true)
  (ht : P.underlying t = some (.slice e)) (hi : P.info? e = some i0) (hz : i0.zero = some z) (hsize : i0.size = size) (hby : i0.bytes = bytes) (hzs : z.cells.size = size) (hsz : 0 < size)
  (v : Value) (n : Nat) (xs : List Value) (hs : a.eval s = v) (hown : w.ownsRow base e size v n xs) (B : Nat) (A : Option Addr) (m c : Nat) (news : List Value) (hx : a.eval x = .slice A m c) (hr : zaU w B size A m news) (h1 : ∀ u ∈ news,u.oneCell' = true)
  (h63 : n + m ≤ maxLen) (hbytes : (n + m) * bytes ≤ 140737488355328) (hbase : base ≤ w.heap.size)
  (hK : ∀ v' w',w'.ownsRow base e size v' (n + m) (xs ++ news) → w.grownBy w' v.ownBlock → (v'.ownBlock = v.ownBlock ∨ v'.ownBlock = some w.heap.size) → St T S late (listed.setIfInBounds i true) w' ∧ zas P md ops Q T S late fuel (listed.setIfInBounds i true) (a.put d v') w') : zar P md ops Q T S late fuel listed a w i :=
 zar.of i d _ ho hw fun o K h2 h3 hKK => zdC w s x t h3 base e i0 z size bytes ht hi hz hsize hby hzs hsz v n xs hs hown B A m c news hx hr h1 h63 hbytes hbase fun v' w' q1 q2 q3 => by
  have := hK v' w' q1 q2 q3;rw [h2];exact hKK _ _ this.1 this.2
end
end
section
section
variable {P : Program}{ops : Array Oper}{Q : Exit → Act → World → Prop}{md : Region.Mode}{T S : World → Prop}{late : List Nat}{fuel : Nat}{listed : Array Bool}{a : Act}{w : World}
theorem zar.entry (i : Nat)(d : Option Tmp)(t : TypeId)(m k : Operand)(mv kv v : Value)(w1 : World)(ho : zc6 ops i = some (d,.mapEntry t m k))(hw : zaS ops i a = some true)(hm : a.eval m = mv)(hk : a.eval k = kv)(hr : (Instr.mapEntry t mv kv).run P w = .ok v w1)
  (hS : St T S late (listed.setIfInBounds i true) w1) (h : zas P md ops Q T S late fuel (listed.setIfInBounds i true) (a.put d v) w1) : zar P md ops Q T S late fuel listed a w i :=
 zar.run i d _ v w1 ho hw (fun o e => by
  unfold execOp;simp only [e,hm,hk,Sem.run_bind,hr,Result.andThen_ok,Sem.run_pure]) hS h
theorem zar.entrySet (i : Nat)(t : TypeId)(m k x : Operand)(mv kv v : Value)(w1 : World)(ho : zc6 ops i = some (none,.entryStore t m k x))(hw : zaS ops i a = some true)(hm : a.eval m = mv)(hk : a.eval k = kv)(hx : a.eval x = v)(hr : (Instr.entryStore t mv kv v).run P w = .ok () w1)
  (hS : St T S late (listed.setIfInBounds i true) w1) (h : zas P md ops Q T S late fuel (listed.setIfInBounds i true) (a.put none undef) w1) : zar P md ops Q T S late fuel listed a w i :=
 zar.skip i _ w1 ho hw (fun o e => by
  unfold execOp;simp only [e,hm,hk,hx,Sem.run_bind,hr,Result.andThen_ok,Sem.run_pure]) hS h
theorem zar.mapSet (i : Nat)(t : TypeId)(m k x : Operand)(mv kv v : Value)(w1 : World)(ho : zc6 ops i = some (none,.mapUpdate t m k x))(hw : zaS ops i a = some true)(hm : a.eval m = mv)(hk : a.eval k = kv)(hx : a.eval x = v)(hr : (Instr.mapUpdate t mv kv v).run P w = .ok () w1)
  (hS : St T S late (listed.setIfInBounds i true) w1) (h : zas P md ops Q T S late fuel (listed.setIfInBounds i true) (a.put none undef) w1) : zar P md ops Q T S late fuel listed a w i :=
 zar.skip i _ w1 ho hw (fun o e => by
  unfold execOp;simp only [e,hm,hk,hx,Sem.run_bind,hr,Result.andThen_ok,Sem.run_pure]) hS h
end
end
section
section
variable {P : Program}
theorem zag {ops : Array Oper}{rest : List Oper}{o : Oper}{a : Act}{w : World}{Q : Exit → Act → World → Prop}(hgd : o.guard = none)(ty : TypeId)(x y : Operand)(ho : o.op = .store ty x y)
  (cs : Array Value) (vs : List Value) (v : Value) (hx : a.eval x = .pointer (some ⟨w.heap.size,0,none⟩)) (hy : a.eval y = v) (hv : v.cells = vs.toArray) (hi : (P.info? ty).map (·.size) = some vs.length)
  (hl : cs.size = vs.length) (h1 : ∀ u ∈ vs,u.oneCell' = true)
  (h : ∀ w',Blk w' w.heap.size ty vs.toArray → Below w.heap.size w w' → w'.heap.size = w.heap.size + 1 → wpList P ops Q rest (a.put o.dst undef) w') : wpList P ops Q (o :: rest) a (w.alloc (.cells cs ty)) := by
 refine zaa hgd ty x y ho w.heap.size 0 ty cs.toList vs v (by simpa using Blk.new w ty cs) hx hy hv hi (by simp [hl]) h1 fun w' hB hg hs => ?_
 have he : zaM cs.toList 0 vs = vs := by
  unfold zaM;rw [zt6,List.nil_append,ztO,ztV (by simp [hl]),ztE]
 rw [he] at hB;exact h w' hB (((Below.refl _ _).alloc (ztn _) _).grown hg (zaF _ (ztn _)) (fun g e => by injection e with e; omega)) (by simpa using hs)
end
end
end Go.Proofs.YtepagfkkjlbipaaGreat
