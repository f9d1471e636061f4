/-
  Parts of the proof of SymbcRuns. Conditions: those written in each statement.
-/
import Derived.Test.YtepagfkkjlbipaaGreatKaq
set_option linter.unusedVariables false
set_option linter.unusedSimpArgs false
set_option maxHeartbeats 64000000
set_option maxRecDepth 100000
namespace Go.Proofs.YtepagfkkjlbipaaGreat
open Go.RowKit
open Tryz
section
theorem zfW {T : List TD}{n : Int}(h : zal T n = true) : ∃ i : Nat,n = (i : Int) ∧ T[i]? = some (atP T n) := by
 obtain ⟨k,h1,h2⟩ := zhk h;exact ⟨k,h1,h2⟩
theorem zok {p : PS}{t : TD}(h : (zcP p t).2 = 0) : okP p.T t = true := by
 unfold zcP at h
 split at h
 ·cases h
 ·rename_i h1; simpa using h1
theorem zl8 {p q : PS}(hq : WfP q){t : TD}(h : (zcP p t).2 = 0)(he : Ext (zcm p t) q) : zcm q t = q ∧ zcP q t = ((zcP p t).1,0) := by
 have h1 := zfL h;obtain ⟨i,hi,hT⟩ := zfW (he.has h1.1);rw [he.at_ h1.1,h1.2] at hT;have := zib hq hT;rw [hi];exact this
inductive ZD (T : List TD) (w : Int) : Int → (Int ⊕ TD) → Prop where
 | all {a : Int} (h : w = 64) : ZD T w a (.inl a)
 | const {a : Int} (h : w ≠ 64) (k : (atP T a).kind = 0) : ZD T w a (.inr (zaf (zao w (atP T a).n)))
 | thin {a : Int} (h : w ≠ 64) (k : (atP T a).kind ≠ 0) (n : zbY T a w = true) : ZD T w a (.inl a)
 | deep {a : Int} {d : Int ⊕ TD} (h : w ≠ 64) (k : (atP T a).kind = 3) (n : zbY T a w = false) (r : ZD T w (atP T a).a d) : ZD T w a d
 | put {a : Int} (h : w ≠ 64) (k : (atP T a).kind ≠ 0) (k3 : (atP T a).kind ≠ 3) (n : zbY T a w = false) : ZD T w a (.inr (zgd w a))
def resD (p : PS) : Int ⊕ TD → RS
 | .inl n => (p,n,0)
 | .inr t => putR p t
def Wd4 (w : Int) : Prop := w = 8 ∨ w = 16 ∨ w = 32 ∨ w = 64
theorem zcr {v w n : Int}(hv : Wd4 v)(hw : Wd4 w)(hn : U64 n) : zao w (zao v n) = zao (min v w) n := by
 unfold U64 at hn
 rcases hv with rfl | rfl | rfl | rfl <;> rcases hw with rfl | rfl | rfl | rfl <;> simp [zao] <;> omega
section
variable {p p1 p2 p3 : PS}{v w x one two least : Int}{d1 d2 d3 : Int ⊕ TD}
end
end
section
theorem zry : ∀ w : World,(zeroValue 31).run prog w = .ok (.int .u64 0) w := fun w => by kernel_rfl
def knF (T : List TD)(vs : List Int)(L : List Nat)(x : Int) : Option Value := if x ∈ L.map (fun i : Nat => (i : Int)) then (evP T vs x).map (Value.int .u64) else none
theorem zqh {T : List TD}{vs : List Int}{L : List Nat}{n : Nat}{v : Int}(h : evP T vs n = some v)(x : Int) : knF T vs (L ++ [n]) x = zeC (knF T vs L) (n : Int) (.int .u64 v) x := by
 unfold knF zeC
 by_cases e : x = (n : Int)
 ·subst e
  simp [h]
 ·simp [e]
structure EvF (base g : Nat)(F : Nat → Prop)(p : PS)(vs : List Int)(A : Option Addr)(nn c B gm : Nat)(L : List Nat)(W : World) : Prop where
 pool : zam W base F g p
 vars : zaU W B 1 A nn (vs.map (Value.int .u64))
 len : vs.length = nn
 cap : nn ≤ c
 small : nn < 9223372036854775808
 u : ∀ v ∈ vs,U64 v
 known : zaR prog 3 (Value.int .i64) I64 W gm L.length (knF p.T vs L)
 far : ¬ F gm ∧ B ≤ gm
 nd : L.Nodup
 lt : ∀ i ∈ L,i < p.T.length
 ok : ∀ i ∈ L,∃ v,evP p.T vs (i : Nat) = some v
def znD (o : Option Int) : Int × Int := match o with
 | some v => (v,0)
 | none => (0,2)
def zdl (er : Int)(o : Option Int) : Int × Int := if er = 0 then znD o else (0,er)
section
variable {base g nn c B gm : Nat}{F G : Nat → Prop}{p : PS}{vs : List Int}{A : Option Addr}{L L0 : List Nat}{W W0 V : World}
theorem EvF.chg (h : EvF base g F p vs A nn c B gm L W)(hc : Chg G W V)(h1 : ∀ b,F b → ¬ G b)(h2 : ∀ b,G b → B ≤ b)(h3 : ¬ G gm) : EvF base g F p vs A nn c B gm L V :=
 ⟨h.pool.chg hc h1,hc.reads h.vars (by have := h.known.lt; have := h.far.2; omega) h2,h.len,h.cap,h.small,h.u,hc.mapIs h.known h3,h.far,h.nd,h.lt,h.ok⟩
theorem EvF.below (h : EvF base g F p vs A nn c B gm L W)(hb : Below W.heap.size W V) : EvF base g F p vs A nn c B gm L V := h.chg (G := fun _ => False) (.of_below hb) (fun _ _ q => q) (fun _ q => q.elim) (fun q => q)
theorem EvF.few (h : EvF base g F p vs A nn c B gm L W) : L.length ≤ 4000 := zto (zg9 _ _ h.nd h.lt) h.pool.few
theorem EvF.kn (h : EvF base g F p vs A nn c B gm L W){n : Int}(hk : knF p.T vs L n = none) : ∀ i ∈ L,(i : Int) ≠ n := by
 intro i hi e;subst e;obtain ⟨v,hv⟩ := h.ok i hi;unfold knF at hk;rw [if_pos (List.mem_map.2 ⟨i,hi,rfl⟩),hv] at hk
 cases hk
theorem EvF.hit (h : EvF base g F p vs A nn c B gm L W){n : Int}{u : Value}(hk : knF p.T vs L n = some u) : ∃ v,u = .int .u64 v ∧ evP p.T vs n = some v := by
 unfold knF at hk
 split at hk
 ·rw [ztC] at hk
  obtain ⟨v,hv,rfl⟩ := hk;exact ⟨v,rfl,hv⟩
 ·cases hk
theorem EvF.put (h : EvF base g F p vs A nn c B gm L W){n : Nat}{v : Int}(hm : zaR prog 3 (Value.int .i64) I64 V gm (L.length + 1) (zeC (knF p.T vs L) (n : Int) (.int .u64 v)))(hg : W.grownBy V (some gm))(hv : evP p.T vs (n : Nat) = some v)(hn : n ∉ L)(hl : n < p.T.length) : EvF base g F p vs A nn c B gm (L ++ [n]) V where
 pool := h.pool.chg (G := fun b => b = gm) (Chg.of_grown hg fun r e => .inl (by injection e with e; exact e.symm)) fun b q e => h.far.1 (e ▸ q)
 vars := (Chg.of_grown (F := fun b => b = gm) hg fun r e => .inl (by injection e with e; exact e.symm)).reads h.vars (by have := h.known.lt; have := h.far.2; omega) fun b q => q ▸ h.far.2
 len := h.len
 cap := h.cap
 small := h.small
 u := h.u
 known := by
  have := hm.congr (zqh hv)
  simpa using this
 far := h.far
 nd := by
  rw [List.nodup_append];exact ⟨h.nd,by simp,fun a ha b hb => by simp at hb; subst hb; exact fun e => hn (e ▸ ha)⟩
 lt := fun i hi => by
  rcases List.mem_append.1 hi with q | q
  ·exact h.lt i q
  ·simp at q; omega
 ok := fun i hi => by
  rcases List.mem_append.1 hi with q | q
  ·exact h.ok i q
  ·simp at q; subst q; exact ⟨v,hv⟩
def EvQ (base g : Nat)(F : Nat → Prop)(p : PS)(vs : List Int)(A : Option Addr)(nn c B gm : Nat)(n : Int)(L0 : List Nat)(W0 : World)(e : Ending)(W : World) : Prop :=
 ∃ L,e = .returned (.tuple #[.int .u64 (znD (evP p.T vs n)).1,.int .i64 (znD (evP p.T vs n)).2]) ∧ EvF base g F p vs A nn c B gm L W ∧ Chg (fun b => b = gm) W0 W ∧ ∀ i ∈ L,i ∈ L0 ∨ (i : Int) ≤ n
def EvC (base g : Nat)(F : Nat → Prop)(p : PS)(vs : List Int)(A : Option Addr)(nn c B gm : Nat)(n : Int) : Prop :=
 ∀ (L : List Nat) (W : World),EvF base g F p vs A nn c B gm L W → Calls prog 56 #[.agg #[.pointer (some ⟨g,0,none⟩)],.int .i64 n,.slice A nn c,.map (some gm)] W (EvQ base g F p vs A nn c B gm n L W)
structure EvS (base g : Nat)(F : Nat → Prop)(p : PS)(vs : List Int)(A : Option Addr)(nn c B gm : Nat)(n : Int)(L0 : List Nat)(W0 : World)(b4 b6 b7 be b12 : Nat)(t : TD)(er : Int)(L : List Nat)(W : World) : Prop where
 f : EvF base g F p vs A nn c B gm L W
 e4 : Blk W b4 125 #[.pointer (some ⟨g,0,none⟩)]
 e6 : Blk W b6 26 #[.slice A nn c]
 e7 : Blk W b7 127 #[.map (some gm)]
 ee : Blk W be 35 #[.int .i64 er]
 e12 : Blk W b12 147 t.cells.toArray
 ne : be ≠ b4 ∧ be ≠ b6 ∧ be ≠ b7 ∧ be ≠ b12 ∧ W0.heap.size ≤ be
 old : (∀ b,F b → b < W0.heap.size) ∧ gm < W0.heap.size ∧ B ≤ W0.heap.size
 chg : Chg (fun b => b = gm) W0 W
 new : ∀ i ∈ L,i ∈ L0 ∨ (i : Int) < n
variable {n k er : Int}{b4 b6 b7 be b12 : Nat}{t : TD}
theorem EvS.below (h : EvS base g F p vs A nn c B gm n L0 W0 b4 b6 b7 be b12 t er L W)(hb : Below W.heap.size W V) : EvS base g F p vs A nn c B gm n L0 W0 b4 b6 b7 be b12 t er L V :=
 ⟨h.f.below hb,h.e4.below hb h.e4.lt,h.e6.below hb h.e6.lt,h.e7.below hb h.e7.lt,h.ee.below hb h.ee.lt,h.e12.below hb h.e12.lt,h.ne,h.old,h.chg.trans (G := fun _ => False) (.of_below hb) (fun _ q => q.elim),h.new⟩
theorem EvS.eval (h : EvS base g F p vs A nn c B gm n L0 W0 b4 b6 b7 be b12 t er L W){L' : List Nat}(hf : EvF base g F p vs A nn c B gm L' V)(hc : Chg (fun b => b = gm) W V)(hk : k < n)(hn : ∀ i ∈ L',i ∈ L ∨ (i : Int) ≤ k) : EvS base g F p vs A nn c B gm n L0 W0 b4 b6 b7 be b12 t er L' V :=
 ⟨hf,hc.blk h.e4 (zbh h.e4 h.f.known),hc.blk h.e6 (zbh h.e6 h.f.known),hc.blk h.e7 (zbh h.e7 h.f.known),hc.blk h.ee (zbh h.ee h.f.known),hc.blk h.e12 (zbh h.e12 h.f.known),h.ne,h.old,h.chg.trans hc fun b q => .inl q,
  fun i hi => (hn i hi).elim (h.new i) fun q => .inr (by omega)⟩
theorem EvS.err (h : EvS base g F p vs A nn c B gm n L0 W0 b4 b6 b7 be b12 t er L W)(er' : Int) : EvS base g F p vs A nn c B gm n L0 W0 b4 b6 b7 be b12 t er' L (W.setCell ⟨be,0,none⟩ (.int .i64 er')) := by
 have hg := grownBy_setCell' W be (.int .i64 er');have hc : Chg (fun b => b = be) W (W.setCell ⟨be,0,none⟩ (.int .i64 er')) := Chg.of_grown hg fun r e => .inl (by injection e with e; exact e.symm)
 have h1 := h.ne;have h2 := h.old;refine ⟨h.f.chg hc (fun b q e => ?_) (fun b e => ?_) (fun e => ?_),h.e4.set2 _ (Ne.symm h1.1),h.e6.set2 _ (Ne.symm h1.2.1),h.e7.set2 _ (Ne.symm h1.2.2.1),h.ee.set1 _,h.e12.set2 _ (Ne.symm h1.2.2.2.1),h1,h2,h.chg.trans hc fun b e => .inr (by rw [e]; exact h1.2.2.2.2),h.new⟩
 ·have := h2.1 b q; omega
 ·omega
 ·omega
theorem zdc (h : EvS base g F p vs A nn c B gm n L0 W0 b4 b6 b7 be b12 t er L W)(hk : k < n)(hC : EvC base g F p vs A nn c B gm k) :
  Calls prog 96 #[.int .i64 k,.pointer (some ⟨be,0,none⟩),.pointer (some ⟨b4,0,none⟩),.pointer (some ⟨b6,0,none⟩),.pointer (some ⟨b7,0,none⟩)] W fun e w' => ∃ L',e = .returned (.int .u64 (zdl er (evP p.T vs k)).1) ∧ EvS base g F p vs A nn c B gm n L0 W0 b4 b6 b7 be b12 t (zdl er (evP p.T vs k)).2 L' w' := by
 have HS := Hd h
 have HK := Hd hk
 have HC := Hd (hC L W h.f)
 have ce := h.ee.cell 0;have c4 := h.e4.cell 0;have c6 := h.e6.cell 0;have c7 := h.e7.cell 0;simp at ce c4 c6 c7;clear h hk hC
 cases h0 : (er == 0)
 ·have HR := Hd (show zdl er (evP p.T vs k) = (0,er) from if_neg (by simpa using h0))
  rw [HR.out];go_enter func96,ntmps96;go_wp2;go_ret;exact ⟨L,rfl,HS.out⟩
 ·have HR := Hd (show zdl er (evP p.T vs k) = znD (evP p.T vs k) from if_pos (by simpa using h0))
  rw [HR.out];obtain ⟨r,hr⟩ : ∃ r,znD (evP p.T vs k) = r := ⟨_,rfl⟩;rw [hr];have HRR := Hd hr
  clear hr;obtain ⟨v,er2⟩ := r;go_enter func96,ntmps96;go_wp2_with fail
  refine HC.out.mono ?_;rintro e w1 ⟨L1,rfl,hf,hc,hn⟩;rw [HRR.out];have HS1 := Hd (HS.out.eval hf hc HK.out hn)
  clear hf hc hn ce c4 c6 c7;have ce := HS1.out.ee.cell 0;have fe := HS1.out.ee.frozen 0;simp at ce;go_wp2;go_ret;exact ⟨L1,rfl,HS1.out.err er2⟩
theorem EvS.fail (h : EvS base g F p vs A nn c B gm n L0 W0 b4 b6 b7 be b12 t er L W)(hv : evP p.T vs n = none) : EvQ base g F p vs A nn c B gm n L0 W0 (.returned (.tuple #[.int .u64 0,.int .i64 2])) W :=
 ⟨L,by rw [hv]; rfl,h.f,h.chg,fun i hi => (h.new i hi).imp id fun q => by omega⟩
theorem EvS.done (h : EvS base g F p vs A nn c B gm n L0 W0 b4 b6 b7 be b12 t er L W){m : Nat}{v : Int}(hm : (m : Int) = n)(hK : zaR prog 3 (Value.int .i64) I64 V gm (L.length + 1) (zeC (knF p.T vs L) n (.int .u64 v)))(hg : W.grownBy V (some gm))(hL0 : ∀ i ∈ L0,(i : Int) ≠ n)(hl : m < p.T.length)(hv : evP p.T vs n = some v) :
  EvQ base g F p vs A nn c B gm n L0 W0 (.returned (.tuple #[.int .u64 v,.int .i64 0])) V := by
 subst hm;refine ⟨L ++ [m],by rw [hv]; rfl,h.f.put hK hg hv (fun q => ?_) hl,h.chg.trans (G := fun b => b = gm) (Chg.of_grown hg fun r e => .inl (by injection e with e; exact e.symm)) (fun b q => .inl q),fun i hi => ?_⟩
 ·rcases h.new m q with q | q
  ·exact hL0 m q rfl
  ·omega
 ·rcases List.mem_append.1 hi with q | q
  ·exact (h.new i q).imp id fun q => by omega
  ·simp at q; exact .inr (by omega)
theorem zol {oa : Option Int}{v1 e1 : Int}(h1 : zdl 0 oa = (v1,e1)) : (e1 = 2 ∧ oa = none) ∨ (e1 = 0 ∧ oa = some v1) := by
 cases oa with
 | none => injection h1 with _ h; exact .inl ⟨h.symm,rfl⟩
 | some v => injection h1 with h h'; subst h; exact .inr ⟨h'.symm,rfl⟩
theorem zqi {oa ob : Option Int}{v1 e1 v2 e2 : Int}(h1 : zdl 0 oa = (v1,e1))(h2 : zdl e1 ob = (v2,e2)) : (e2 = 2 ∧ (oa = none ∨ ob = none)) ∨ (e2 = 0 ∧ oa = some v1 ∧ ob = some v2) := by
 rcases zol h1 with ⟨rfl,ha⟩ | ⟨rfl,ha⟩
 ·injection h2 with _ h
  exact .inl ⟨h.symm,.inl ha⟩
 ·rcases zol h2 with ⟨rfl,hb⟩ | ⟨rfl,hb⟩
  ·exact .inl ⟨rfl,.inr hb⟩
  ·exact .inr ⟨rfl,ha,hb⟩
theorem zrz {oa ob oc : Option Int}{v1 e1 v2 e2 v3 e3 : Int}(h1 : zdl 0 oa = (v1,e1))(h2 : zdl e1 ob = (v2,e2))(h3 : zdl e2 oc = (v3,e3)) : (e3 = 2 ∧ (oa = none ∨ ob = none ∨ oc = none)) ∨ (e3 = 0 ∧ oa = some v1 ∧ ob = some v2 ∧ oc = some v3) := by
 rcases zqi h1 h2 with ⟨rfl,ha⟩ | ⟨rfl,ha⟩
 ·injection h3 with _ h
  exact .inl ⟨h.symm,ha.elim .inl fun q => .inr (.inl q)⟩
 ·rcases zol h3 with ⟨rfl,hb⟩ | ⟨rfl,hb⟩
  ·exact .inl ⟨rfl,.inr (.inr hb)⟩
  ·exact .inr ⟨rfl,ha.1,ha.2,hb⟩
theorem zcz {er : Int}{o : Option Int}{v e : Int}(h : zdl er o = (v,e))(ho : ∀ u,o = some u → U64 u) : U64 v := by
 unfold zdl at h
 split at h
 ·cases o with
  | none => injection h with h _; subst h; exact zaA
  | some u => injection h with h _; subst h; exact ho u rfl
 ·injection h with h _; subst h; exact zaA
theorem zl9 (n : Int)(hI : I64 n)(hIH : ∀ k : Int,0 ≤ k → k < n → EvC base g F p vs A nn c B gm k) : EvC base g F p vs A nn c B gm n := by
 intro L W h;have HIH := Hd hIH
 have HI := Hd hI
 have HF := Hd h
 have nf : ∀ b,F b → b < W.heap.size := fun b q => (h.pool.fb b q).2
 have HOLD := Hd (show (∀ b,F b → b < W.heap.size) ∧ gm < W.heap.size ∧ B ≤ W.heap.size from ⟨nf,h.known.lt,by have := h.known.lt; have := h.far.2; omega⟩)
 have d4 := ((Boxed.new W 125 (.pointer (some ⟨g,0,none⟩))).alloc (.cells #[.slice A nn c] 26)).alloc (.cells #[.map (some gm)] 127);have d6 := (Boxed.new (W.alloc (.cells #[.pointer (some ⟨g,0,none⟩)] 125)) 26 (.slice A nn c)).alloc (.cells #[.map (some gm)] 127);have d7 := Boxed.new ((W.alloc (.cells #[.pointer (some ⟨g,0,none⟩)] 125)).alloc (.cells #[.slice A nn c] 26)) 127 (.map (some gm));simp only [World.size_alloc] at d4 d6 d7;have hb1 : Below W.heap.size W (((W.alloc (.cells #[.pointer (some ⟨g,0,none⟩)] 125)).alloc (.cells #[.slice A nn c] 26)).alloc (.cells #[.map (some gm)] 127)) := (((Below.refl _ W).alloc (ztn _) _).alloc (by simp) _).alloc (by simp; omega) _;clear hIH hI h nf;go_enter func56,ntmps56;go_upto_region 1 with fail
 generalize (((W.alloc (.cells #[.pointer (some ⟨g,0,none⟩)] 125)).alloc (.cells #[.slice A nn c] 26)).alloc (.cells #[.map (some gm)] 127)) = W1 at d4 d6 d7 hb1 ⊢;have HF1 := Hd (HF.out.below hb1)
 have HC1 := Hd (Chg.of_below (F := fun b => b = gm) hb1)
 have HB1 := Hd hb1
 have HK1 := Hd HF1.out.known
 obtain ⟨b4,hb4⟩ : ∃ b,W.heap.size = b := ⟨_,rfl⟩;have HB4 := Hd hb4
 rw [hb4] at d4 d6 d7 ⊢;have H4 := Hd (show Blk W1 b4 125 #[.pointer (some ⟨g,0,none⟩)] from d4)
 have H6 := Hd (show Blk W1 (b4 + 1) 26 #[.slice A nn c] from d6)
 have H7 := Hd (show Blk W1 (b4 + 1 + 1) 127 #[.map (some gm)] from d7)
 have c4 := H4.out.cell 0;have c6 := H6.out.cell 0;have c7 := H7.out.cell 0;simp at c4 c6 c7;clear hb1 hb4 d4 d6 d7
 cases hk : knF p.T vs L n with
 | some u =>
  obtain ⟨v,rfl,hv⟩ := HF1.out.hit hk;have HV := Hd hv
  have HKN := Hd hk
  clear hv hk;go_wp2_with (first
   | (refine zej rfl (.tmp 26) (.tmp 27) 127 true rfl 31 zoY (by kernel_rfl) (.int .u64 0) (zry _) HK1.out n HI.out (by rfl) (by rfl) ?_
      simp only [HKN.out,Option.getD,Option.isSome,if_true])
   | fail)
  exact bodyPost_ret (v := .tuple #[.int .u64 v,.int .i64 0]) (by simp [results,results56,go_sem]) rfl ⟨L,by rw [HV.out]; rfl,HF1.out,HC1.out,fun i hi => .inl hi⟩
 | none =>
  have HNK := Hd (HF.out.kn hk)
  have HKN := Hd hk
  clear hk;obtain ⟨t,ht⟩ : ∃ t,atP p.T n = t := ⟨_,rfl⟩;have HT0 := Hd ht
  have HTW := Hd (show t.wf from ht ▸ zba HF1.out.pool.rng n)
  clear ht;obtain ⟨er,her⟩ : ∃ er : Int,(if zal p.T n = true then 0 else 2) = er := ⟨_,rfl⟩;have HER := Hd her
  clear her;go_upto_region 4 with (first
   | (refine zej rfl (.tmp 26) (.tmp 27) 127 true rfl 31 zoY (by kernel_rfl) (.int .u64 0) (zry _) HK1.out n HI.out (by rfl) (by rfl) ?_
      simp only [HKN.out,Option.getD,Option.isSome,if_true])
   | fail)
  go_wp2_with fail
  refine (zjI n _ HF1.out.pool).mono ?_;rintro e W2 ⟨rfl,hb⟩;rw [HT0.out,HER.out];have HF2 := Hd (HF1.out.below hb)
  have HB2 := Hd (HB1.out.trans (hb.mono HB1.out.size))
  have H42 := Hd (H4.out.below hb H4.out.lt)
  have H62 := Hd (H6.out.below hb H6.out.lt)
  have H72 := Hd (H7.out.below hb H7.out.lt)
  clear HF1 HC1 HB1 HK1 H4 H6 H7 c4 c6 c7 hb;have hbA := zbN W2 (.cells zbi.cells.toArray 147);have hbB := zbN (W2.alloc (.cells zbi.cells.toArray 147)) (.cells #[.int .i64 0] 35);have HX12 := Hd ((Blk.new W2 147 zbi.cells.toArray).below hbB (Blk.new W2 147 zbi.cells.toArray).lt)
  have HX13 := Hd (Blk.new (W2.alloc (.cells zbi.cells.toArray 147)) 35 #[.int .i64 0])
  have HBA := Hd (hbA.trans (hbB.mono hbA.size))
  go_upto_region 5 with (first
   | (refine zaa rfl 147 (.tmp 12) (.tmp 38) rfl W2.heap.size 0 147 zbi.cells t.cells (zaw t) HX12.out (by rfl) (by rfl) rfl zcL (by simp [TD.cells]) (TD.one _) ?_
      intro W3 G3 L3 Z3;have HX3 := Hd G3
      have HL3 := Hd L3
      have HY3 := Hd (HX13.out.grown L3 (fun e => by injection e with e; simp at e))
      have c13 := HY3.out.cell 0;have f13 := HY3.out.frozen 0;simp at c13 f13;clear G3 L3 Z3)
   | fail)
  have hb5 : Below W2.heap.size W2 (W3.setCell ⟨W2.heap.size + 1,0,none⟩ (.int .i64 er)) := (HBA.out.grown HL3.out (by simp; omega) (fun r hr => by injection hr with hr; omega)).grown (grownBy_setCell' W3 (W2.heap.size + 1) (.int .i64 er)) (by have := HX3.out.lt; omega) (fun r hr => by injection hr with hr; omega);have hov : zaM zbi.cells 0 t.cells = t.cells := by unfold zaM; simp [TD.cells]
  have hx3 := HX3.out;rw [hov] at hx3;have hy3 : Blk W3 (W2.heap.size + 1) 35 #[.int .i64 0] := by have h := HY3.out; rw [World.size_alloc] at h; exact h
  have hS : EvS base g F p vs A nn c B gm n L W b4 (b4 + 1) (b4 + 1 + 1) (W2.heap.size + 1) W2.heap.size t er L (W3.setCell ⟨W2.heap.size + 1,0,none⟩ (.int .i64 er)) :=
   ⟨HF2.out.below hb5,H42.out.below hb5 H42.out.lt,H62.out.below hb5 H62.out.lt,H72.out.below hb5 H72.out.lt,hy3.set1 _,hx3.set2 _ (by omega),(by have h1 := H72.out.lt; have h2 := HB4.out; have h3 := HB2.out.size; omega),HOLD.out,Chg.of_below (HB2.out.trans (hb5.mono HB2.out.size)),fun i hi => .inl hi⟩
  have HS := Hd hS
  clear hS hx3 hy3 hov hb5 HF2 HB2 H42 H62 H72 hbA hbB HX12 HX13 HBA HX3 HL3 HY3 c13 f13;generalize W3.setCell ⟨W2.heap.size + 1,0,none⟩ (.int .i64 er) = W5 at HS ⊢;obtain ⟨b12,hb12⟩ : ∃ b,W2.heap.size = b := ⟨_,rfl⟩;obtain ⟨be,hbe⟩ : ∃ b,b12 + 1 = b := ⟨_,rfl⟩;rw [hb12,hbe] at HS ⊢;clear hb12 hbe
  cases hh : zal p.T n
  ·obtain rfl : er = 2 := by have := HER.out; rw [hh] at this; simpa using this.symm
   have HV := Hd (zjW (vs := vs) hh)
   clear hh;have ce := HS.out.ee.cell 0;simp at ce;go_wp2;exact bodyPost_ret (v := .tuple #[.int .u64 0,.int .i64 2]) (by simp [results,results56,go_sem]) rfl (EvS.fail HS.out HV.out)
  ·obtain rfl : er = 0 := by have := HER.out; rw [hh] at this; simpa using this.symm
   obtain ⟨m,hm,hmt⟩ := zhk hh;rw [HT0.out] at hmt;have HNN := Hd hm.symm
   have HML := Hd (show m < p.T.length from (ztt.1 hmt).1)
   have HOKT := Hd (HS.out.f.pool.wf.ok m t hmt)
   have HEV := Hd (show evP p.T vs n = evT vs t (evP p.T vs) by rw [zds HS.out.f.pool.wf hh,HT0.out])
   have HPL := Hd (fun (k : Int) (hk : k ∈ zax t) => (show 0 ≤ k ∧ k < n from zcD HS.out.f.pool.wf hh (by rw [HT0.out]; exact hk)))
   have HUU := Hd (fun (k u : Int) (h : evP p.T vs k = some u) => zc2 HS.out.f.pool.rng HS.out.f.u h)
   clear hm hmt hh;have ce := HS.out.ee.cell 0;have q0 := HS.out.e12.cell 0;have q3 := HS.out.e12.cell 3;simp [TD.cells] at ce q0 q3
   cases k1 : (t.kind == 1);rotate_left
   ·have n1 : t.kind = 1 := by simpa using k1
    have hn64 := HTW.out.2.2.2.1;have hconv : IntKind.u64.wrap (nn : Int) = nn := by have := HS.out.f.small; rw [IntKind.wrap_u64]; omega
    have q2 := HS.out.e12.cell 2;have c6 := HS.out.e6.cell 0;simp [TD.cells] at q2 c6;have hev : evP p.T vs n = (vs[t.n.toNat]?).map (zao t.w) := by rw [HEV.out]; unfold evT; rw [if_pos n1]
    have HEV1 := Hd hev
    clear hev;obtain ⟨j,hj⟩ : ∃ j : Nat,t.n = j := ⟨t.n.toNat,by unfold U64 at hn64; omega⟩;have HJ := Hd hj
    cases hlt : decide ((nn : Int) ≤ t.n)
    ·have hjn : j < nn := by rw [hj] at hlt; simpa using hlt
     obtain ⟨ad,u,rfl,hb,hu,hcl⟩ := HS.out.f.vars.at_ hjn;obtain ⟨v,hv⟩ : ∃ v,vs[j]? = some v := ⟨_,ztq (by rw [HS.out.f.len]; exact hjn)⟩;rw [ztw,hv] at hu;injection hu with hu
     subst hu;have HV := Hd (show evP p.T vs n = some (zao t.w v) by rw [HEV1.out,hj]; show (vs[j]?).map _ = _; rw [hv]; rfl)
     have hcap := HS.out.f.cap;rw [hj] at hlt hn64 q3;have hjn' : ¬ nn ≤ j := by omega
     clear hv HJ hj;have HCM := Hd (fun w => (zbD v t.w w).mono fun e w' q => (⟨q.1,q.2.symm⟩ : e = Ending.returned (.int .u64 (zao t.w v)) ∧ w' = w))
     go_upto_region 13 with fail
     go_quiet ((go_at_call 97; refine Calls.quiet_of_same (HCM.out _)))
     replace HS := Hd (HS.out.below (zad (Below.refl _ _) nq))
     have ce := HS.out.ee.cell 0;have c7 := HS.out.e7.cell 0;simp at ce c7;have HM := Hd HS.out.f.known
     go_wp2_with (first
      | (refine zbc rfl (.tmp 135) (.tmp 136) (.tmp 137) 127 rfl 31 zoY (by kernel_rfl) HM.out (by have := HS.out.f.few; unfold maxLen; omega) n HI.out (.int .u64 (zao t.w v)) (by rfl) (by rfl) (by rfl) ?_
         intro wm hm hg;have HMM := Hd hm
         have HG := Hd hg
         clear hm hg)
      | fail)
     exact bodyPost_ret (v := .tuple #[.int .u64 (zao t.w v),.int .i64 0]) (by simp [results,results56,go_sem]) rfl (EvS.done HS.out HNN.out HMM.out HG.out HNK.out HML.out HV.out)
    ·have HV := Hd (show evP p.T vs n = none by rw [HEV1.out,hj]; show (vs[j]?).map _ = _; rw [zul (by rw [HS.out.f.len]; have : (nn : Int) ≤ t.n := (by simpa using hlt); omega)]; rfl)
     have hnj : nn ≤ j := by rw [hj] at hlt; simpa using hlt
     rw [hj] at hlt hn64 q3;clear hj HJ;go_wp2;exact bodyPost_ret (v := .tuple #[.int .u64 0,.int .i64 2]) (by simp [results,results56,go_sem]) rfl (EvS.fail HS.out HV.out)
   cases k3 : (t.kind == 3);rotate_left
   ·have n3 : t.kind = 3 := by simpa using k3
    go_upto_region 15 with fail
    obtain ⟨ra,hra⟩ : ∃ r,zdl 0 (evP p.T vs t.a) = r := ⟨_,rfl⟩;obtain ⟨va,ea⟩ := ra;have HAV := Hd hra
    have HAU := Hd (zcz hra (HUU.out t.a))
    clear hra ce q0 q3;refine zac (fun w' => Blk w' b12 147 t.cells.toArray) (fun _ => True) [] (by kernel_rfl) ?_;replace HS := Hd (HS.out.below ((Below.refl _ _).drew))
    have HT := Hd HS.out.e12
    generalize W5.drew = Wd at HS HT ⊢;refine em 0 (.func (.func 96) #[] #[.pointer (some ⟨be,0,none⟩),.pointer (some ⟨b4,0,none⟩),.pointer (some ⟨b4 + 1,0,none⟩),.pointer (some ⟨b4 + 1 + 1,0,none⟩)]) (bT HT) ?_;refine eg 1 (.pointer (some ⟨b12,4,none⟩)) (bT HT) ?_;refine el false 2 ⟨b12,4,none⟩ (.int .i64 t.a) underlying3 (fun w hS => (hS.1.cell 4)) (bT HT) ?_;refine eg 4 (.pointer (some ⟨b12,2,none⟩)) (bT HT) ?_;refine el false 5 ⟨b12,2,none⟩ (.int .i8 t.w) underlying30 (fun w hS => (hS.1.cell 2)) (bT HT) ?_;refine ec 3 (zdc HS.out (HPL.out t.a (by rw [show zax t = [t.a] by unfold zax; simp [n3]]; simp)).2 (HIH.out t.a (HPL.out t.a (by rw [show zax t = [t.a] by unfold zax; simp [n3]]; simp)).1 (HPL.out t.a (by rw [show zax t = [t.a] by unfold zax; simp [n3]]; simp)).2)) ?_;rintro e w8 ⟨L8,rfl,hs8⟩;rw [HAV.out] at hs8 ⊢;replace HS := Hd hs8
    replace HT := Hd HS.out.e12
    clear hs8;refine ek (bT HT) ?_;refine ec 6 (zbD _ _ _) ?_;rintro e w9 ⟨rfl,rfl⟩;refine ek (bT HT) ?_;refine eS 7 (.int .u64 (zao t.w va)) (bT HT) ?_;refine zab (by kernel_rfl) ?_ _
    rcases zol HAV.out with ⟨rfl,hq⟩ | ⟨rfl,hq⟩
    ·have HV := Hd (show evP p.T vs n = none by rw [HEV.out]; unfold evT; rw [if_neg (by omega),if_pos n3,hq]; rfl)
     clear hq;have ce := HS.out.ee.cell 0;simp at ce;go_upto_region 29 with fail
     go_quiet (fail)
     go_wp2;exact bodyPost_ret (v := .tuple #[.int .u64 0,.int .i64 2]) (by simp [results,results56,go_sem]) rfl (EvS.fail (HS.out.below (zad (Below.refl _ _) nq)) HV.out)
    ·have HV := Hd (show evP p.T vs n = some (zao t.w va) by rw [HEV.out]; unfold evT; rw [if_neg (by omega),if_pos n3,hq]; rfl)
     clear hq;have ce := HS.out.ee.cell 0;have c7 := HS.out.e7.cell 0;simp at ce c7;have HM := Hd HS.out.f.known
     go_wp2_with (first
      | (refine zbc rfl (.tmp 135) (.tmp 136) (.tmp 137) 127 rfl 31 zoY (by kernel_rfl) HM.out (by have := HS.out.f.few; unfold maxLen; omega) n HI.out (.int .u64 (zao t.w va)) (by rfl) (by rfl) (by rfl) ?_
         intro wm hm hg;have HMM := Hd hm
         have HG := Hd hg
         clear hm hg)
      | fail)
     exact bodyPost_ret (v := .tuple #[.int .u64 (zao t.w va),.int .i64 0]) (by simp [results,results56,go_sem]) rfl (EvS.done HS.out HNN.out HMM.out HG.out HNK.out HML.out HV.out)
   cases k2 : (t.kind == 2);rotate_left
   ·have n2 : t.kind = 2 := by simpa using k2
    go_upto_region 17 with fail
    obtain ⟨ra,hra⟩ : ∃ r,zdl 0 (evP p.T vs t.a) = r := ⟨_,rfl⟩;obtain ⟨va,ea⟩ := ra;have HAV := Hd hra
    have HAU := Hd (zcz hra (HUU.out t.a))
    obtain ⟨rb,hrb⟩ : ∃ r,zdl ea (evP p.T vs t.b) = r := ⟨_,rfl⟩;obtain ⟨vb,eb⟩ := rb;have HBV := Hd hrb
    have HBU := Hd (zcz hrb (HUU.out t.b))
    clear hra hrb ce q0 q3;refine zac (fun w' => Blk w' b12 147 t.cells.toArray) (fun _ => True) [] (by kernel_rfl) ?_;replace HS := Hd (HS.out.below ((Below.refl _ _).drew))
    have HT := Hd HS.out.e12
    generalize W5.drew = Wd at HS HT ⊢;refine em 0 (.func (.func 96) #[] #[.pointer (some ⟨be,0,none⟩),.pointer (some ⟨b4,0,none⟩),.pointer (some ⟨b4 + 1,0,none⟩),.pointer (some ⟨b4 + 1 + 1,0,none⟩)]) (bT HT) ?_;refine eg 1 (.pointer (some ⟨b12,4,none⟩)) (bT HT) ?_;refine el false 2 ⟨b12,4,none⟩ (.int .i64 t.a) underlying3 (fun w hS => (hS.1.cell 4)) (bT HT) ?_;refine em 4 (.func (.func 96) #[] #[.pointer (some ⟨be,0,none⟩),.pointer (some ⟨b4,0,none⟩),.pointer (some ⟨b4 + 1,0,none⟩),.pointer (some ⟨b4 + 1 + 1,0,none⟩)]) (bT HT) ?_;refine eg 5 (.pointer (some ⟨b12,5,none⟩)) (bT HT) ?_;refine el false 6 ⟨b12,5,none⟩ (.int .i64 t.b) underlying3 (fun w hS => (hS.1.cell 5)) (bT HT) ?_;refine ec 3 (zdc HS.out (HPL.out t.a (by rw [show zax t = [t.a,t.b] by unfold zax; simp [n2]]; simp)).2 (HIH.out t.a (HPL.out t.a (by rw [show zax t = [t.a,t.b] by unfold zax; simp [n2]]; simp)).1 (HPL.out t.a (by rw [show zax t = [t.a,t.b] by unfold zax; simp [n2]]; simp)).2)) ?_;rintro e w8 ⟨L8,rfl,hs8⟩;rw [HAV.out] at hs8 ⊢;replace HS := Hd hs8
    replace HT := Hd HS.out.e12
    clear hs8;refine ek (bT HT) ?_;refine ec 7 (zdc HS.out (HPL.out t.b (by rw [show zax t = [t.a,t.b] by unfold zax; simp [n2]]; simp)).2 (HIH.out t.b (HPL.out t.b (by rw [show zax t = [t.a,t.b] by unfold zax; simp [n2]]; simp)).1 (HPL.out t.b (by rw [show zax t = [t.a,t.b] by unfold zax; simp [n2]]; simp)).2)) ?_;rintro e w8 ⟨L8,rfl,hs8⟩;rw [HBV.out] at hs8 ⊢;replace HS := Hd hs8
    replace HT := Hd HS.out.e12
    clear hs8;refine ek (bT HT) ?_;refine eS 8 (.int .u64 va) (bT HT) ?_;refine eS 9 (.int .u64 vb) (bT HT) ?_;refine zab (by kernel_rfl) ?_ _;have hdo : zdp t.op t.w = true := by
     have := HOKT.out;unfold okF zcl at this;rw [n2] at this;simp at this;unfold zdp zcb;simp;omega
    have HDO := Hd hdo
    have q1 := HS.out.e12.cell 1;have q2 := HS.out.e12.cell 2;simp [TD.cells] at q1 q2;clear hdo;go_wp2_with fail
    refine (zjN va vb _ HDO.out HBU.out).mono ?_;rintro e w9 ⟨rfl,hb⟩;replace HS := Hd (HS.out.below hb)
    clear hb q1 q2
    rcases zqi HAV.out HBV.out with ⟨rfl,hq⟩ | ⟨rfl,hq⟩
    ·have HV := Hd (show evP p.T vs n = none by rw [HEV.out]; unfold evT; rw [if_neg (by omega),if_neg (by omega),if_pos n2]; rcases hq with q | q <;> rw [q] <;> cases evP p.T vs t.a <;> rfl)
     clear hq;have ce := HS.out.ee.cell 0;simp at ce;go_upto_region 29 with fail
     go_quiet (fail)
     go_wp2;exact bodyPost_ret (v := .tuple #[.int .u64 0,.int .i64 2]) (by simp [results,results56,go_sem]) rfl (EvS.fail (HS.out.below (zad (Below.refl _ _) nq)) HV.out)
    ·have HV := Hd (show evP p.T vs n = some (doU t.op t.w va vb) by rw [HEV.out]; unfold evT; rw [if_neg (by omega),if_neg (by omega),if_pos n2,hq.1,hq.2]; rfl)
     clear hq;have ce := HS.out.ee.cell 0;have c7 := HS.out.e7.cell 0;simp at ce c7;have HM := Hd HS.out.f.known
     go_wp2_with (first
      | (refine zbc rfl (.tmp 135) (.tmp 136) (.tmp 137) 127 rfl 31 zoY (by kernel_rfl) HM.out (by have := HS.out.f.few; unfold maxLen; omega) n HI.out (.int .u64 (doU t.op t.w va vb)) (by rfl) (by rfl) (by rfl) ?_
         intro wm hm hg;have HMM := Hd hm
         have HG := Hd hg
         clear hm hg)
      | fail)
     exact bodyPost_ret (v := .tuple #[.int .u64 (doU t.op t.w va vb),.int .i64 0]) (by simp [results,results56,go_sem]) rfl (EvS.done HS.out HNN.out HMM.out HG.out HNK.out HML.out HV.out)
   cases k4 : (t.kind == 4);rotate_left
   ·have n4 : t.kind = 4 := by simpa using k4
    go_upto_region 20 with fail
    obtain ⟨ra,hra⟩ : ∃ r,zdl 0 (evP p.T vs t.a) = r := ⟨_,rfl⟩;obtain ⟨va,ea⟩ := ra;have HAV := Hd hra
    have HAU := Hd (zcz hra (HUU.out t.a))
    obtain ⟨rb,hrb⟩ : ∃ r,zdl ea (evP p.T vs t.b) = r := ⟨_,rfl⟩;obtain ⟨vb,eb⟩ := rb;have HBV := Hd hrb
    have HBU := Hd (zcz hrb (HUU.out t.b))
    clear hra hrb ce q0 q3;refine zac (fun w' => Blk w' b12 147 t.cells.toArray) (fun _ => True) [] (by kernel_rfl) ?_;replace HS := Hd (HS.out.below ((Below.refl _ _).drew))
    have HT := Hd HS.out.e12
    generalize W5.drew = Wd at HS HT ⊢;refine em 0 (.func (.func 96) #[] #[.pointer (some ⟨be,0,none⟩),.pointer (some ⟨b4,0,none⟩),.pointer (some ⟨b4 + 1,0,none⟩),.pointer (some ⟨b4 + 1 + 1,0,none⟩)]) (bT HT) ?_;refine eg 1 (.pointer (some ⟨b12,4,none⟩)) (bT HT) ?_;refine el false 2 ⟨b12,4,none⟩ (.int .i64 t.a) underlying3 (fun w hS => (hS.1.cell 4)) (bT HT) ?_;refine em 4 (.func (.func 96) #[] #[.pointer (some ⟨be,0,none⟩),.pointer (some ⟨b4,0,none⟩),.pointer (some ⟨b4 + 1,0,none⟩),.pointer (some ⟨b4 + 1 + 1,0,none⟩)]) (bT HT) ?_;refine eg 5 (.pointer (some ⟨b12,5,none⟩)) (bT HT) ?_;refine el false 6 ⟨b12,5,none⟩ (.int .i64 t.b) underlying3 (fun w hS => (hS.1.cell 5)) (bT HT) ?_;refine ec 3 (zdc HS.out (HPL.out t.a (by rw [show zax t = [t.a,t.b] by unfold zax; simp [n4]]; simp)).2 (HIH.out t.a (HPL.out t.a (by rw [show zax t = [t.a,t.b] by unfold zax; simp [n4]]; simp)).1 (HPL.out t.a (by rw [show zax t = [t.a,t.b] by unfold zax; simp [n4]]; simp)).2)) ?_;rintro e w8 ⟨L8,rfl,hs8⟩;rw [HAV.out] at hs8 ⊢;replace HS := Hd hs8
    replace HT := Hd HS.out.e12
    clear hs8;refine ek (bT HT) ?_;refine ec 7 (zdc HS.out (HPL.out t.b (by rw [show zax t = [t.a,t.b] by unfold zax; simp [n4]]; simp)).2 (HIH.out t.b (HPL.out t.b (by rw [show zax t = [t.a,t.b] by unfold zax; simp [n4]]; simp)).1 (HPL.out t.b (by rw [show zax t = [t.a,t.b] by unfold zax; simp [n4]]; simp)).2)) ?_;rintro e w8 ⟨L8,rfl,hs8⟩;rw [HBV.out] at hs8 ⊢;replace HS := Hd hs8
    replace HT := Hd HS.out.e12
    clear hs8;refine ek (bT HT) ?_;refine eS 8 (.int .u64 va) (bT HT) ?_;refine eS 9 (.int .u64 vb) (bT HT) ?_;refine zab (by kernel_rfl) ?_ _;have hdo : zaW t.op t.w = true := by
     have := HOKT.out;unfold okF zcl at this;rw [n4] at this;simp at this;unfold zaW zcb;simp;omega
    have HDO := Hd hdo
    have q1 := HS.out.e12.cell 1;have q2 := HS.out.e12.cell 2;simp [TD.cells] at q1 q2;clear hdo;go_wp2_with fail
    refine (zfN va vb _ HDO.out).mono ?_;rintro e w9 ⟨rfl,rfl⟩;clear q1 q2;go_wp2_with fail
    refine (zhs _ _).mono ?_;rintro e w9 ⟨rfl,rfl⟩
    rcases zqi HAV.out HBV.out with ⟨rfl,hq⟩ | ⟨rfl,hq⟩
    ·have HV := Hd (show evP p.T vs n = none by rw [HEV.out]; unfold evT; rw [if_neg (by omega),if_neg (by omega),if_neg (by omega),if_pos n4]; rcases hq with q | q <;> rw [q] <;> cases evP p.T vs t.a <;> rfl)
     clear hq;have ce := HS.out.ee.cell 0;simp at ce;go_upto_region 29 with fail
     go_quiet (fail)
     go_wp2;exact bodyPost_ret (v := .tuple #[.int .u64 0,.int .i64 2]) (by simp [results,results56,go_sem]) rfl (EvS.fail (HS.out.below (zad (Below.refl _ _) nq)) HV.out)
    ·have HV := Hd (show evP p.T vs n = some (zcO (zaJ t.op t.w va vb)) by rw [HEV.out]; unfold evT; rw [if_neg (by omega),if_neg (by omega),if_neg (by omega),if_pos n4,hq.1,hq.2]; rfl)
     clear hq;have ce := HS.out.ee.cell 0;have c7 := HS.out.e7.cell 0;simp at ce c7;have HM := Hd HS.out.f.known
     go_wp2_with (first
      | (refine zbc rfl (.tmp 135) (.tmp 136) (.tmp 137) 127 rfl 31 zoY (by kernel_rfl) HM.out (by have := HS.out.f.few; unfold maxLen; omega) n HI.out (.int .u64 (zcO (zaJ t.op t.w va vb))) (by rfl) (by rfl) (by rfl) ?_
         intro wm hm hg;have HMM := Hd hm
         have HG := Hd hg
         clear hm hg)
      | fail)
     exact bodyPost_ret (v := .tuple #[.int .u64 (zcO (zaJ t.op t.w va vb)),.int .i64 0]) (by simp [results,results56,go_sem]) rfl (EvS.done HS.out HNN.out HMM.out HG.out HNK.out HML.out HV.out)
   cases k5 : (t.kind == 5);rotate_left
   ·have n5 : t.kind = 5 := by simpa using k5
    go_upto_region 24 with fail
    obtain ⟨ra,hra⟩ : ∃ r,zdl 0 (evP p.T vs t.a) = r := ⟨_,rfl⟩;obtain ⟨va,ea⟩ := ra;have HAV := Hd hra
    have HAU := Hd (zcz hra (HUU.out t.a))
    obtain ⟨rb,hrb⟩ : ∃ r,zdl ea (evP p.T vs t.b) = r := ⟨_,rfl⟩;obtain ⟨vb,eb⟩ := rb;have HBV := Hd hrb
    have HBU := Hd (zcz hrb (HUU.out t.b))
    obtain ⟨rc,hrc⟩ : ∃ r,zdl eb (evP p.T vs t.c) = r := ⟨_,rfl⟩;obtain ⟨vc,ecc⟩ := rc;have HCV := Hd hrc
    have HCU := Hd (zcz hrc (HUU.out t.c))
    clear hra hrb hrc ce q0 q3;refine zac (fun w' => Blk w' b12 147 t.cells.toArray) (fun _ => True) [] (by kernel_rfl) ?_;replace HS := Hd (HS.out.below ((Below.refl _ _).drew))
    have HT := Hd HS.out.e12
    generalize W5.drew = Wd at HS HT ⊢;refine em 0 (.func (.func 96) #[] #[.pointer (some ⟨be,0,none⟩),.pointer (some ⟨b4,0,none⟩),.pointer (some ⟨b4 + 1,0,none⟩),.pointer (some ⟨b4 + 1 + 1,0,none⟩)]) (bT HT) ?_;refine eg 1 (.pointer (some ⟨b12,4,none⟩)) (bT HT) ?_;refine el false 2 ⟨b12,4,none⟩ (.int .i64 t.a) underlying3 (fun w hS => (hS.1.cell 4)) (bT HT) ?_;refine em 4 (.func (.func 96) #[] #[.pointer (some ⟨be,0,none⟩),.pointer (some ⟨b4,0,none⟩),.pointer (some ⟨b4 + 1,0,none⟩),.pointer (some ⟨b4 + 1 + 1,0,none⟩)]) (bT HT) ?_;refine eg 5 (.pointer (some ⟨b12,5,none⟩)) (bT HT) ?_;refine el false 6 ⟨b12,5,none⟩ (.int .i64 t.b) underlying3 (fun w hS => (hS.1.cell 5)) (bT HT) ?_;refine em 8 (.func (.func 96) #[] #[.pointer (some ⟨be,0,none⟩),.pointer (some ⟨b4,0,none⟩),.pointer (some ⟨b4 + 1,0,none⟩),.pointer (some ⟨b4 + 1 + 1,0,none⟩)]) (bT HT) ?_;refine eg 9 (.pointer (some ⟨b12,6,none⟩)) (bT HT) ?_;refine el false 10 ⟨b12,6,none⟩ (.int .i64 t.c) underlying3 (fun w hS => (hS.1.cell 6)) (bT HT) ?_;refine ec 3 (zdc HS.out (HPL.out t.a (by rw [show zax t = [t.a,t.b,t.c] by unfold zax; simp [n5]]; simp)).2 (HIH.out t.a (HPL.out t.a (by rw [show zax t = [t.a,t.b,t.c] by unfold zax; simp [n5]]; simp)).1 (HPL.out t.a (by rw [show zax t = [t.a,t.b,t.c] by unfold zax; simp [n5]]; simp)).2)) ?_;rintro e w8 ⟨L8,rfl,hs8⟩;rw [HAV.out] at hs8 ⊢;replace HS := Hd hs8
    replace HT := Hd HS.out.e12
    clear hs8;refine ek (bT HT) ?_;refine ec 7 (zdc HS.out (HPL.out t.b (by rw [show zax t = [t.a,t.b,t.c] by unfold zax; simp [n5]]; simp)).2 (HIH.out t.b (HPL.out t.b (by rw [show zax t = [t.a,t.b,t.c] by unfold zax; simp [n5]]; simp)).1 (HPL.out t.b (by rw [show zax t = [t.a,t.b,t.c] by unfold zax; simp [n5]]; simp)).2)) ?_;rintro e w8 ⟨L8,rfl,hs8⟩;rw [HBV.out] at hs8 ⊢;replace HS := Hd hs8
    replace HT := Hd HS.out.e12
    clear hs8;refine ek (bT HT) ?_;refine ec 11 (zdc HS.out (HPL.out t.c (by rw [show zax t = [t.a,t.b,t.c] by unfold zax; simp [n5]]; simp)).2 (HIH.out t.c (HPL.out t.c (by rw [show zax t = [t.a,t.b,t.c] by unfold zax; simp [n5]]; simp)).1 (HPL.out t.c (by rw [show zax t = [t.a,t.b,t.c] by unfold zax; simp [n5]]; simp)).2)) ?_;rintro e w8 ⟨L8,rfl,hs8⟩;rw [HCV.out] at hs8 ⊢;replace HS := Hd hs8
    replace HT := Hd HS.out.e12
    clear hs8;refine ek (bT HT) ?_;refine eS 12 (.int .u64 va) (bT HT) ?_;refine eS 13 (.int .u64 vb) (bT HT) ?_;refine eS 14 (.int .u64 vc) (bT HT) ?_;refine zab (by kernel_rfl) ?_ _
    cases hz : (va == 0)
    ·skip
     rcases zrz HAV.out HBV.out HCV.out with ⟨rfl,hq⟩ | ⟨rfl,hq⟩
     ·have HV := Hd (show evP p.T vs n = none by rw [HEV.out]; unfold evT; rw [if_neg (by omega),if_neg (by omega),if_neg (by omega),if_neg (by omega),if_pos n5]; rcases hq with q | q | q <;> rw [q] <;> cases evP p.T vs t.a <;> cases evP p.T vs t.b <;> rfl)
      clear hq;have ce := HS.out.ee.cell 0;simp at ce;go_upto_region 29 with fail
      go_quiet (fail)
      go_wp2;exact bodyPost_ret (v := .tuple #[.int .u64 0,.int .i64 2]) (by simp [results,results56,go_sem]) rfl (EvS.fail (HS.out.below (zad (Below.refl _ _) nq)) HV.out)
     ·have HV := Hd (show evP p.T vs n = some (vb) by rw [HEV.out]; unfold evT; rw [if_neg (by omega),if_neg (by omega),if_neg (by omega),if_neg (by omega),if_pos n5,hq.1,hq.2.1,hq.2.2]; show some (if va = 0 then vc else vb) = _; rw [if_neg (by simpa using hz)])
      clear hq;have ce := HS.out.ee.cell 0;have c7 := HS.out.e7.cell 0;simp at ce c7;have HM := Hd HS.out.f.known
      go_wp2_with (first
       | (refine zbc rfl (.tmp 135) (.tmp 136) (.tmp 137) 127 rfl 31 zoY (by kernel_rfl) HM.out (by have := HS.out.f.few; unfold maxLen; omega) n HI.out (.int .u64 (vb)) (by rfl) (by rfl) (by rfl) ?_
          intro wm hm hg;have HMM := Hd hm
          have HG := Hd hg
          clear hm hg)
       | fail)
      exact bodyPost_ret (v := .tuple #[.int .u64 (vb),.int .i64 0]) (by simp [results,results56,go_sem]) rfl (EvS.done HS.out HNN.out HMM.out HG.out HNK.out HML.out HV.out)
    ·skip
     rcases zrz HAV.out HBV.out HCV.out with ⟨rfl,hq⟩ | ⟨rfl,hq⟩
     ·have HV := Hd (show evP p.T vs n = none by rw [HEV.out]; unfold evT; rw [if_neg (by omega),if_neg (by omega),if_neg (by omega),if_neg (by omega),if_pos n5]; rcases hq with q | q | q <;> rw [q] <;> cases evP p.T vs t.a <;> cases evP p.T vs t.b <;> rfl)
      clear hq;have ce := HS.out.ee.cell 0;simp at ce;go_upto_region 29 with fail
      go_quiet (fail)
      go_wp2;exact bodyPost_ret (v := .tuple #[.int .u64 0,.int .i64 2]) (by simp [results,results56,go_sem]) rfl (EvS.fail (HS.out.below (zad (Below.refl _ _) nq)) HV.out)
     ·have HV := Hd (show evP p.T vs n = some (vc) by rw [HEV.out]; unfold evT; rw [if_neg (by omega),if_neg (by omega),if_neg (by omega),if_neg (by omega),if_pos n5,hq.1,hq.2.1,hq.2.2]; show some (if va = 0 then vc else vb) = _; rw [if_pos (by simpa using hz)])
      clear hq;have ce := HS.out.ee.cell 0;have c7 := HS.out.e7.cell 0;simp at ce c7;have HM := Hd HS.out.f.known
      go_wp2_with (first
       | (refine zbc rfl (.tmp 135) (.tmp 136) (.tmp 137) 127 rfl 31 zoY (by kernel_rfl) HM.out (by have := HS.out.f.few; unfold maxLen; omega) n HI.out (.int .u64 (vc)) (by rfl) (by rfl) (by rfl) ?_
          intro wm hm hg;have HMM := Hd hm
          have HG := Hd hg
          clear hm hg)
       | fail)
      exact bodyPost_ret (v := .tuple #[.int .u64 (vc),.int .i64 0]) (by simp [results,results56,go_sem]) rfl (EvS.done HS.out HNN.out HMM.out HG.out HNK.out HML.out HV.out)
   have n0 : t.kind = 0 := by
    have := HOKT.out;simp at k1 k2 k3 k4 k5;unfold okF zcl at this;rw [if_neg k1,if_neg k2,if_neg k4,if_neg k3] at this;simp at this
    rcases this.1 with h | h
    ·exact h
    ·exact absurd h k5
   have HV := Hd (show evP p.T vs n = some t.n by rw [HEV.out]; unfold evT; rw [if_neg (by omega),if_neg (by omega),if_neg (by omega),if_neg (by omega),if_neg (by omega)])
   have ce := HS.out.ee.cell 0;have c7 := HS.out.e7.cell 0;simp at ce c7;have HM := Hd HS.out.f.known
   go_wp2_with (first
    | (refine zbc rfl (.tmp 135) (.tmp 136) (.tmp 137) 127 rfl 31 zoY (by kernel_rfl) HM.out (by have := HS.out.f.few; unfold maxLen; omega) n HI.out (.int .u64 t.n) (by rfl) (by rfl) (by rfl) ?_
       intro wm hm hg;have HMM := Hd hm
       have HG := Hd hg
       clear hm hg)
    | fail)
   exact bodyPost_ret (v := .tuple #[.int .u64 t.n,.int .i64 0]) (by simp [results,results56,go_sem]) rfl (EvS.done HS.out HNN.out HMM.out HG.out HNK.out HML.out HV.out)
end
end
end Go.Proofs.YtepagfkkjlbipaaGreat
