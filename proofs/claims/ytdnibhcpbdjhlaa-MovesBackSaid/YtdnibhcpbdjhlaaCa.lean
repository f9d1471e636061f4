/-
  moves.Circles: how many circles there are. Conditions: those written in each statement.
-/
import Derived.Test.YtdnibhcpbdjhlaaMq
import Derived.Test.YtdnibhcpbdjhlaaMy
import Derived.Deep.LoopGhost
import Derived.BigFrame
namespace Go.Proofs.Ytdnibhcpbdjhlaa
open Go.RowKit
set_option linter.unusedVariables false
set_option linter.unusedSimpArgs false
theorem zero8 : ∀ w : World, (zeroValue 23).run Try.prog w = .ok (.int .i8 0) w := fun w => by kernel_rfl
def fromF (l : List Mv) : Int → Option Value := fun r => (lk l r).map (Value.int .i8)
theorem lk_snoc : ∀ (L : List Mv) (x : Mv) (y : Int), x.1 ∉ L.map (·.1) → lk (L ++ [x]) y = if y = x.1 then some x.2 else lk L y
  | [], x, y, _ => by
    show (if x.1 = y then some x.2 else lk [] y) = if y = x.1 then some x.2 else lk [] y
    by_cases h : x.1 = y
    · rw [if_pos h, if_pos h.symm]
    · rw [if_neg h, if_neg (fun e => h e.symm)]
  | z :: t, x, y, hn => by
    rw [List.map_cons, List.mem_cons, not_or] at hn
    rw [List.cons_append, show lk (z :: (t ++ [x])) y = if z.1 = y then some z.2 else lk (t ++ [x]) y from rfl, lk_snoc t x y hn.2, show lk (z :: t) y = if z.1 = y then some z.2 else lk t y from rfl]
    by_cases h : z.1 = y
    · rw [if_pos h, if_pos h, if_neg (fun e => hn.1 (by rw [← e, h]))]
    · rw [if_neg h, if_neg h]
theorem from_put {L : List Mv} {x : Mv} (hn : x.1 ∉ L.map (·.1)) (y : Int) : fromF (L ++ [x]) y = putF (fromF L) x.1 (.int .i8 x.2) y := by
  unfold fromF putF
  rw [lk_snoc L x y hn]
  split <;> rfl
def seenF (S : Int → Int) : Int → Option Value := fun x => if S x = 0 then none else some (.int .i64 (S x))
theorem seen_look (S : Int → Int) (x : Int) : (seenF S x).getD (.int .i64 0) = .int .i64 (S x) := by
  unfold seenF
  split
  · rename_i h; rw [h]; rfl
  · rfl
theorem seen_put (S : Int → Int) (a v : Int) (hv : v ≠ 0) (y : Int) : seenF (putS S a v) y = putF (seenF S) a (.int .i64 v) y := by
  unfold seenF putF putS
  by_cases h : y = a
  · rw [if_pos h, if_pos h, if_neg hv]
  · rw [if_neg h, if_neg h]
theorem seen_put_of {S : Int → Int} {a v : Int} (hv : v ≠ 0) : seenF (putS S a v) = putF (seenF S) a (.int .i64 v) := funext fun y => seen_put S a v hv y
def CircP (l : List Mv) (w : World) (e : Ending) (w' : World) : Prop := ∃ c : Nat, e = .returned (.int .i64 c) ∧ (namedB l = true → CycN l c) ∧ (namedB l = false → c = 0) ∧ c ≤ l.length ∧ Below w.heap.size w w'
def RcRel (l : List Mv) (w : World) (A : Option Addr) (n b : Nat) (i : Value) (wr : World) : Prop :=
  ∃ k : Nat, k ≤ n ∧ i = .int .i64 k ∧ MapIs Try.prog 23 (Value.int .i8) I8 wr b k (fromF (l.take k)) ∧ MvsAt wr w.heap.size A n l ∧ Below w.heap.size w wr ∧ w.heap.size ≤ b
/-- The two maps, the moves. -/
structure CF (l : List Mv) (A : Option Addr) (n b1 b2 q : Nat) (S : Int → Int) (w W : World) : Prop where
  from_ : MapIs Try.prog 23 (Value.int .i8) I8 W b1 n (fromF l)
  seen : MapIs Try.prog 23 (Value.int .i8) I8 W b2 q (seenF S)
  mvs : MvsAt W w.heap.size A n l
  below : Below w.heap.size w W
theorem bel_dN {B : Nat} {w : World} (m : Nat) : Below B w (w.drewN m) := by
  have := Below.refl B w
  exact ⟨this.os, this.tape, this.output, this.size, this.block⟩
theorem wpList_lookT {κ : Type} [DecidableEq κ] {P : Program} {k : TypeId} {enc : κ → Value} {V : κ → Prop} {w : World} {b n : Nat} {f : κ → Option Value} {ops : Array Oper} {rest : List Oper} {o : Oper} {a : Act} {Q : Exit → Act → World → Prop} (hg : o.guard = none) (m y : Operand) (t : TypeId) (hop : o.op = Op.lookup t m y true)
    (e : TypeId) (E : KeyEnc P k enc V) (ht : P.underlying t = some (.map k e)) (z : Value) (hz : (zeroValue e).run P w = .ok z w) (h : MapIs P k enc V w b n f) (x : κ) (hx : V x) (hm : a.eval m = .map (some b)) (hy : a.eval y = enc x)
    (v : Value) (hv : Value.tuple #[(f x).getD z, .bool (f x).isSome] = v) (hK : wpList P ops Q rest (a.put o.dst v) w) : wpList P ops Q (o :: rest) a w := by
  refine wpList_look hg m y t true hop e E ht z hz h x hx hm hy ?_
  subst hv
  simpa using hK
theorem from_some {l : List Mv} {a y : Int} (h : lk l a = some y) : Value.tuple #[(fromF l a).getD (.int .i8 0), .bool (fromF l a).isSome] = .tuple #[.int .i8 y, .bool true] := by
  unfold fromF
  rw [h]
  rfl
theorem from_none {l : List Mv} {a : Int} (h : lk l a = none) : Value.tuple #[(fromF l a).getD (.int .i8 0), .bool (fromF l a).isSome] = .tuple #[.int .i8 0, .bool false] := by
  unfold fromF
  rw [h]
  rfl
theorem from_val {l : List Mv} {a y : Int} (h : lk l a = some y) : (fromF l a).getD (.int .i8 0) = .int .i8 y := by
  unfold fromF
  rw [h]
  rfl
section
variable {l : List Mv} {A : Option Addr} {n b1 b2 q : Nat} {S : Int → Int} {w W V : World}
theorem CF.step (h : CF l A n b1 b2 q S w W) (hb : Below W.heap.size W V) : CF l A n b1 b2 q S w V :=
  ⟨h.from_.below hb h.from_.lt, h.seen.below hb h.seen.lt, h.mvs.below (hb.mono h.below.size), h.below.trans (hb.mono h.below.size)⟩
theorem CF.more (h : CF l A n b1 b2 q S w W) {q' : Nat} (hq : q ≤ q') : CF l A n b1 b2 q' S w W := ⟨h.from_, h.seen.mono hq, h.mvs, h.below⟩
/-- A place is marked. -/
theorem CF.put (h : CF l A n b1 b2 q S w W) (hb : b1 ≠ b2) (h2 : w.heap.size ≤ b2) {a v : Int} (hv : v ≠ 0) (hm : MapIs Try.prog 23 (Value.int .i8) I8 V b2 (q + 1) (putF (seenF S) a (.int .i64 v))) (hg : W.grownBy V (some b2)) : CF l A n b1 b2 (q + 1) (putS S a v) w V := by
  have := h.below.size
  refine ⟨h.from_.grown hg (fun e => by injection e with e; exact hb e), ?_, h.mvs.grown hg this (fun g e => by injection e with e; omega), kept_map h.below hg this h2⟩
  rw [seen_put_of hv]
  exact hm
end
def C2Rel (l : List Mv) (w : World) (A : Option Addr) (n b1 b2 : Nat) (g : Nat) (cv i : Value) (wr : World) : Prop :=
  ∃ (j c : Nat) (S : Int → Int), g + j = n ∧ i = .int .i64 j ∧ cv = .int .i64 c ∧ c ≤ j ∧ CS l S j c ∧ CF l A n b1 b2 (17 * j) S w wr
def C3Rel (l : List Mv) (x : Int) (S0 : Int → Int) (w : World) (A : Option Addr) (n b1 b2 j : Nat) (g : Nat) (av : Value) (wr : World) : Prop :=
  ∃ (t : Nat) (a : Int) (S : Int → Int), g + t = n + 1 ∧ av = .int .i8 a ∧ (0 ≤ a ∧ a < 16) ∧ itr l t x = some a ∧ WS l S0 x t S ∧ CF l A n b1 b2 (17 * j + t) S w wr
theorem named_few {l : List Mv} (h : namedB l = true) : l.length ≤ 16 := by
  obtain ⟨h1, h2⟩ := named_iff.1 h
  have := pig_le h1 (F := ((List.range 16).map fun (i : Nat) => (i : Int) : List Int)) fun y hy => by
    obtain ⟨x, hx, rfl⟩ := List.mem_map.1 hy
    obtain ⟨a, b⟩ := regB_iff.1 (h2 x hx).1
    exact List.mem_map.2 ⟨x.1.toNat, List.mem_range.2 (by omega), by omega⟩
  simpa using this
set_option maxRecDepth 100000 in
set_option maxHeartbeats 8000000 in
theorem circles_any (A : Option Addr) (n c : Nat) (l : List Mv) (w : World) (hh : MvsAt w w.heap.size A n l) (hm : n < 9223372036854775807) :
    Calls Try.prog 15 #[.slice A n c] w (CircP l w) := by
  have HL := hide hh.1
  have HH := hide hh
  clear hh
  cases hnm : namedB l
  · go_enter Try.func15, Try.ntmps15
    go_wp2_with fail
    go_step3
    go_wp2_with fail
    refine (named_any A n c l _ HH.out hm).mono ?_
    rintro e w1 ⟨rfl, hb⟩
    rw [hnm]
    have HB := hide hb
    have HNM := hide hnm
    clear hb hnm
    go_wp2
    go_ret
    exact ⟨0, rfl, (fun h => absurd (HNM.out.symm.trans h) (by decide)), (fun _ => rfl), Nat.zero_le _, HB.out⟩
  · have hn16 : n ≤ 16 := by rw [← HL.out]; exact named_few hnm
    obtain ⟨hnd, hrg⟩ := named_iff.1 hnm
    have HND := hide hnd
    have HRG := hide hrg
    clear hnd hrg
    go_enter Try.func15, Try.ntmps15
    go_wp2_with fail
    go_step3
    go_wp2_with fail
    refine (named_any A n c l _ HH.out hm).mono ?_
    rintro e w1 ⟨rfl, hb⟩
    rw [hnm]
    have HB1 := hide hb
    have HH1 := hide (HH.out.below hb)
    have HNM := hide hnm
    clear hb hnm
    go_wp2_with (first
      | (refine wpList_makeMap (Value.int .i8) I8 23 rfl 41 rfl ?_
         intro w2 b1 G2 M2 L2
         have HM2 := hide M2
         have HL2 := hide (HB1.out.trans (L2.mono HB1.out.size))
         have HH2 := hide (HH1.out.below (L2.mono HB1.out.size))
         have hb1 : w.heap.size ≤ b1 := by have := HB1.out.size; omega
         clear M2 L2)
      | fail)
    go_loopw [19] (fun i wr => RcRel l w A n b1 i wr) (fun i _ => n - (intOf i).toNat)
    case atStart => exact ⟨0, by omega, rfl, HM2.out.congr (by intro q; simp [fromF, lk]), HH2.out, HL2.out, hb1⟩
    case round =>
      obtain ⟨k, hk, rfl, hmap, hat, hbel, _⟩ := hrel
      have HM := hide hmap
      have HAT := hide hat
      have HB := hide hbel
      clear hmap hat hbel
      by_cases hlt : k < n
      · obtain ⟨ad, x, rfl, hab, hx, hxw, hcell⟩ := HAT.out.at_ hlt
        have HX := hide hx
        have HC := hide hcell
        have HW := hide hxw
        have hltb := HM.out.lt
        have hszw := HB.out.size
        clear hx hcell hxw
        obtain ⟨x0, x1⟩ := x
        go_upto_region 7 with (refine wpList_load_at rfl 32 (.tmp 21) rfl (ad.add (k * 2)) rfl [.int .i8 x0, .int .i8 x1] _ HC.out Try.underlying32 rfl (by kernel_rfl) ?_)
        have X3 := Blk.new wr 32 #[.int .i8 x0, .int .i8 x1]
        have L3 : Below wr.heap.size wr (wr.alloc (.cells #[.int .i8 x0, .int .i8 x1] 32)) := (Below.refl _ _).alloc (Nat.le_refl _) _
        generalize wr.alloc (.cells #[.int .i8 x0, .int .i8 x1] 32) = w3 at X3 L3 ⊢
        have c30 : w3.cell? ⟨wr.heap.size, 0, none⟩ = some (.int .i8 x0) := X3.cell 0
        have c31 : w3.cell? ⟨wr.heap.size, 1, none⟩ = some (.int .i8 x1) := X3.cell 1
        have HM3 := hide (HM.out.below L3 hltb)
        have HAT3 := hide (HAT.out.below (L3.mono hszw))
        have HB3 := hide (HB.out.trans (L3.mono hszw))
        have hsz3 := L3.size
        clear X3 L3
        go_wp2_with (first
          | (at_mapUpdate
             refine wpList_put rfl (.tmp 23) (.tmp 25) (.tmp 27) 41 rfl 23 i8K Try.underlying41 HM3.out (by unfold maxLen; omega) x0 HW.out.1 (.int .i8 x1) (by rfl) (by rfl) (by rfl) ?_
             intro w4 M4 L4
             have HM4 := hide M4
             have HAT4 := hide (HAT3.out.grown L4 (by omega) (fun g e => by injection e with e; omega))
             have HB4 := hide (kept_map HB3.out L4 (by omega) hb1)
             clear M4 L4 c30 c31))
        go_roundw
        case measure => simp [intOf]; omega
        case rel =>
          refine ⟨k + 1, by omega, by go_num, HM4.out.congr ?_, HAT4.out, HB4.out, hb1⟩
          intro y
          rw [List.take_add_one, HX.out, Option.toList_some]
          refine from_put (x := (x0, x1)) ?_ y
          intro q
          have hn := HND.out
          have hsp : l = l.take k ++ (x0, x1) :: l.drop (k + 1) := by
            obtain ⟨hl, he⟩ := List.getElem?_eq_some_iff.1 HX.out
            rw [← he, ← List.drop_eq_getElem_cons hl, List.take_append_drop]
          rw [hsp, List.map_append, List.map_cons, List.nodup_append] at hn
          exact hn.2.2 _ q _ (by simp) rfl
      · obtain rfl : k = n := by omega
        have hMA := HM.out.congr (g := fromF l) (by intro q; rw [List.take_of_length_le (by have := HL.out; omega)])
        have HMA := hide hMA
        clear hk hlt hMA HM
        go_wp2_with (first
          | (refine wpList_makeMap (Value.int .i8) I8 23 rfl 42 rfl ?_
             intro w5 b2 G5 M5 L5
             have HCF := hide (CF.mk (HMA.out.below L5 HMA.out.lt) (M5.congr (by intro q; simp [seenF])) (HAT.out.below (L5.mono HB.out.size)) (HB.out.trans (L5.mono HB.out.size)) : CF l A k b1 b2 0 (fun _ => 0) w w5)
             have hb2 : w.heap.size ≤ b2 := by have := HB.out.size; omega
             have hb12 : b1 < b2 := by have := HMA.out.lt; omega
             clear M5 L5)
          | fail)
        have hnc : b1 ≠ b2 := by omega
        go_step3
        go_wp2
        go_loopg [2, 32] k (fun g cv i wr => C2Rel l w A k b1 b2 g cv i wr)
        case atStart => exact ⟨0, 0, fun _ => 0, by omega, rfl, rfl, by omega, CS.start l, HCF.out⟩
        case round =>
          obtain ⟨j, c1, S, hgj, rfl, rfl, hcj, hcs, hcf⟩ := hrel
          have HCS := hide hcs
          have HCF0 := hide hcf
          clear hcs hcf HCF
          cases gk with
          | zero =>
            obtain rfl : j = k := by omega
            go_wp2
            try rw [Exit.noGoto_ret]
            go_ret
            exact ⟨c1, rfl, (fun _ => CS.done (by rw [HL.out]; exact HCS.out)), (fun h => absurd (HNM.out.symm.trans h) (by decide)), by have := HL.out; omega, HCF0.out.below⟩
          | succ g =>
            have hlt : j < k := by omega
            obtain ⟨ad, x, rfl, hab, hx, hxw, hcell⟩ := HCF0.out.mvs.at_ hlt
            have hxm : x ∈ l := List.mem_of_getElem? hx
            obtain ⟨hx0, hx1⟩ := regB_iff.1 (HRG.out x hxm).1
            have HX := hide hx
            have HC := hide hcell
            clear hx hcell hxw hxm
            obtain ⟨x0, x1⟩ := x
            simp only at hx0 hx1
            have hv0 : x0 + 1 ≠ 0 := by omega
            go_upto_region 13 with (refine wpList_load_at rfl 32 (.tmp 34) rfl (ad.add (j * 2)) rfl [.int .i8 x0, .int .i8 x1] _ HC.out Try.underlying32 rfl (by kernel_rfl) ?_)
            have X3 := Blk.new wr 32 #[.int .i8 x0, .int .i8 x1]
            have L3 : Below wr.heap.size wr (wr.alloc (.cells #[.int .i8 x0, .int .i8 x1] 32)) := (Below.refl _ _).alloc (Nat.le_refl _) _
            generalize wr.alloc (.cells #[.int .i8 x0, .int .i8 x1] 32) = w3 at X3 L3 ⊢
            have c30 : w3.cell? ⟨wr.heap.size, 0, none⟩ = some (.int .i8 x0) := X3.cell 0
            have HF3 := hide (HCF0.out.step L3)
            clear X3 L3
            have HF4 := fun m => hide (HF3.out.step (bel_dN m))
            go_quiet (fail)
            go_wp2
            go_loopg [9] (k + 1) (fun g a wr => C3Rel l x0 S w (some ad) k b1 b2 j g a wr)
            case atStart => exact ⟨0, x0, S, by omega, rfl, ⟨hx0, hx1⟩, rfl, WS.start l S x0, (HF4 _).out⟩
            case round =>
              obtain ⟨t, a, S1, hgt, rfl, ⟨ha0, ha1⟩, hit, hws, hcf⟩ := hrel
              have htl := hws.le
              rw [HL.out] at htl
              have HIT := hide hit
              have HWS := hide hws
              have HF := hide hcf
              clear hit hws hcf HF4 HF3 c30
              cases gk with
              | zero => omega
              | succ g1 =>
                have HI8 : Hid (I8 a) := hide ⟨by omega, by omega⟩
                by_cases hs : S1 a = 0
                · have HSE := hide ((seen_look S1 a).trans (by rw [hs]))
                  cases hl : lk l a with
                  | none =>
                    have HFR := hide (from_none hl)
                    have HLK := hide hl
                    have HS := hide hs
                    clear hl hs
                    go_wp2_with (first
                      | (at_lookup
                         refine wpList_look1 rfl (.tmp 42) (.tmp 43) 42 rfl 3 i8K Try.underlying42 (.int .i64 0) (zeroI _) HF.out.seen a HI8.out (by rfl) (by rfl) _ HSE.out ?_)
                      | (at_mapUpdate
                         refine wpList_put rfl (.tmp 46) (.tmp 47) (.tmp 48) 42 rfl 3 i8K Try.underlying42 HF.out.seen (by unfold maxLen; omega) a HI8.out (.int .i64 (x0 + 1)) (by rfl) (by rfl) (by rfl) ?_
                         intro w4 M4 L4
                         have HF5 := hide (HF.out.put hnc hb2 hv0 M4 L4)
                         clear M4 L4)
                      | (at_lookup
                         refine wpList_lookT rfl (.tmp 50) (.tmp 51) 41 rfl 23 i8K Try.underlying41 (.int .i8 0) (zero8 _) HF5.out.from_ a HI8.out (by rfl) (by rfl) _ HFR.out ?_))
                    go_roundg g
                    case measure => omega
                    case rel => exact ⟨j + 1, c1, _, by omega, by go_num, rfl, by omega, CS.dead HCS.out HX.out hx0 HWS.out HIT.out HS.out HLK.out, HF5.out.more (q' := 17 * (j + 1)) (by omega)⟩
                  | some y =>
                    have HFR := hide (from_some hl)
                    have HLK := hide hl
                    have HS := hide hs
                    obtain ⟨hy0, hy1⟩ := regB_iff.1 (HRG.out _ (lk_mem hl)).2
                    clear hl hs
                    go_wp2_with (first
                      | (at_lookup
                         refine wpList_look1 rfl (.tmp 42) (.tmp 43) 42 rfl 3 i8K Try.underlying42 (.int .i64 0) (zeroI _) HF.out.seen a HI8.out (by rfl) (by rfl) _ HSE.out ?_)
                      | (at_mapUpdate
                         refine wpList_put rfl (.tmp 46) (.tmp 47) (.tmp 48) 42 rfl 3 i8K Try.underlying42 HF.out.seen (by unfold maxLen; omega) a HI8.out (.int .i64 (x0 + 1)) (by rfl) (by rfl) (by rfl) ?_
                         intro w4 M4 L4
                         have HF5 := hide (HF.out.put hnc hb2 hv0 M4 L4)
                         clear M4 L4)
                      | (at_lookup
                         refine wpList_lookT rfl (.tmp 50) (.tmp 51) 41 rfl 23 i8K Try.underlying41 (.int .i8 0) (zero8 _) HF5.out.from_ a HI8.out (by rfl) (by rfl) _ HFR.out ?_))
                    go_roundg g1
                    case measure => omega
                    case rel => exact ⟨t + 1, y, _, by omega, rfl, ⟨hy0, hy1⟩, (HWS.out.go hx0 HIT.out HS.out HLK.out).2, (HWS.out.go hx0 HIT.out HS.out HLK.out).1, HF5.out⟩
                · obtain ⟨own1, own2⟩ := WS.own HCS.out HND.out HX.out hx0 HWS.out hs
                  have HSE := hide (seen_look S1 a)
                  by_cases hv : S1 a = x0 + 1
                  · have HV := hide (own1.1 hv)
                    obtain ⟨y, hy⟩ : ∃ y, lk l a = some y := by
                      obtain ⟨i, hi, e⟩ := HV.out
                      obtain ⟨y, hy⟩ := HWS.out.all (i + 1) (by omega)
                      rw [itr, e] at hy
                      exact ⟨y, hy⟩
                    have HFR := hide (from_val hy)
                    have HRD := hide (CS.round HCS.out HX.out hx0 HWS.out HIT.out HV.out)
                    have HLK := hide hy
                    clear own1 own2 hy
                    rw [hv] at HSE
                    clear hs hv
                    by_cases hya : y = a
                    all_goals
                      go_wp2_with (first
                        | (at_lookup
                           refine wpList_look1 rfl (.tmp 42) (.tmp 43) 42 rfl 3 i8K Try.underlying42 (.int .i64 0) (zeroI _) HF.out.seen a HI8.out (by rfl) (by rfl) _ HSE.out ?_)
                        | (at_lookup
                           refine wpList_look1 rfl (.tmp 58) (.tmp 59) 42 rfl 3 i8K Try.underlying42 (.int .i64 0) (zeroI _) HF.out.seen a HI8.out (by rfl) (by rfl) _ HSE.out ?_)
                        | (at_lookup
                           refine wpList_look1w (by rfl) (.tmp 64) (.tmp 65) 41 rfl 23 i8K Try.underlying41 (.int .i8 0) (zero8 _) HF.out.from_ a HI8.out (by rfl) (by rfl) _ HFR.out ?_))
                      go_roundg g
                      case measure => omega
                      case rel =>
                        have hr := HRD.out
                        by_cases hyb : y = a
                        · (rw [if_pos (by rw [HLK.out, hyb])] at hr
                           first
                            | exact absurd hyb hya
                            | exact ⟨j + 1, c1, _, by omega, by go_num, rfl, by omega, hr, HF.out.more (q' := 17 * (j + 1)) (by omega)⟩)
                        · (rw [if_neg (by rw [HLK.out]; intro e; injection e with e; exact hyb e)] at hr
                           first
                            | exact absurd hya hyb
                            | exact ⟨j + 1, c1 + 1, _, by omega, by go_num, by go_num, by omega, hr, HF.out.more (q' := 17 * (j + 1)) (by omega)⟩)
                  · have HV := hide (CS.old HCS.out HX.out hx0 HWS.out HIT.out (own2 (fun v => hv (own1.2 v))))
                    clear own1 own2
                    generalize S1 a = v at HSE hs hv
                    go_wp2_with (first
                      | (at_lookup
                         refine wpList_look1 rfl (.tmp 42) (.tmp 43) 42 rfl 3 i8K Try.underlying42 (.int .i64 0) (zeroI _) HF.out.seen a HI8.out (by rfl) (by rfl) _ HSE.out ?_)
                      | (at_lookup
                         refine wpList_look1 rfl (.tmp 58) (.tmp 59) 42 rfl 3 i8K Try.underlying42 (.int .i64 0) (zeroI _) HF.out.seen a HI8.out (by rfl) (by rfl) _ HSE.out ?_))
                    go_roundg g
                    case measure => omega
                    case rel => exact ⟨j + 1, c1, _, by omega, by go_num, rfl, by omega, HV.out, HF.out.more (q' := 17 * (j + 1)) (by omega)⟩
end Go.Proofs.Ytdnibhcpbdjhlaa
