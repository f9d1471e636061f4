/-
  Short names for lemmas of the core. Conditions: none.
-/
import Derived.RowKit
namespace Go.Proofs.YtepagfkkjlbipaaGreat
abbrev ztn := @Nat.le_refl
abbrev zto := @Nat.le_trans
abbrev ztp := @And.intro
abbrev ztq := @List.getElem?_eq_getElem
abbrev ztr := @Bool.and_eq_true
abbrev zts := @List.getD_eq_getElem?_getD
abbrev ztt := @List.getElem?_eq_some_iff
abbrev ztu := @Nat.le_of_lt
abbrev ztv := @List.mem_of_getElem?
abbrev ztw := @List.getElem?_map
abbrev ztx := @Int.toNat_natCast
abbrev zty := @Nat.lt_of_lt_of_le
abbrev ztz := @List.map_cons
abbrev ztA := @List.map_nil
abbrev ztB := @Int.le_refl
abbrev ztC := @Option.map_eq_some_iff
abbrev ztD := @List.map_toArray
abbrev ztE := @List.append_nil
abbrev ztF := @List.take_add_one
abbrev ztG := @Bool.true_and
abbrev ztH := @Nat.lt_or_ge
abbrev ztI := @Nat.lt_succ_self
abbrev ztJ := @List.getElem?_append_left
abbrev ztK := @List.getElem?_toArray
abbrev ztL := @Bool.false_eq_true
abbrev ztM := @List.mem_cons
abbrev ztN := @List.take_of_length_le
abbrev ztO := @Nat.zero_add
abbrev ztP := @Bool.or_eq_true
abbrev ztQ := @Option.bind_eq_some_iff
abbrev ztR := @Nat.succ_mul
abbrev ztS := @Bool.false_and
abbrev ztT := @Bool.and_true
abbrev ztU := @List.getElem_mem
abbrev ztV := @List.drop_of_length_le
abbrev ztW := @List.length_take
abbrev ztX := @Bool.false_or
abbrev ztY := @Bool.and_false
abbrev ztZ := @Bool.true_or
abbrev zt0 := @Bool.or_true
abbrev zt1 := @Bool.or_false
abbrev zt2 := @Bool.or_self
abbrev zt3 := @List.size_toArray
abbrev zt4 := @List.getElem?_drop
abbrev zt5 := @List.not_mem_nil
abbrev zt6 := @List.take_zero
abbrev zt7 := @List.drop_drop
abbrev zt8 := @List.all_eq_true
abbrev zt9 := @Nat.eq_zero_or_pos
abbrev zua := @List.foldl_cons
abbrev zub := @List.length_set
abbrev zuc := @List.setIfInBounds_toArray
abbrev zud := @List.getElem?_take
abbrev zue := @List.getElem_of_mem
abbrev zuf := @List.flatMap_cons
abbrev zug := @List.getElem?_range
abbrev zuh := @List.getElem?_append_right
abbrev zui := @Bool.not_eq_true'
abbrev zuj := @Bool.and_eq_false_iff
abbrev zuk := @List.mem_of_mem_take
abbrev zul := @List.getElem?_eq_none
end Go.Proofs.YtepagfkkjlbipaaGreat
