/-
  Parts of the proof of SymbcSound. Conditions: those written in each statement.
-/
import Derived.Test.YtepagfkkjlbipaaGreatKbb
import Derived.Test.YtepagfkkjlbipaaGreatRr
set_option linter.unusedVariables false
set_option linter.unusedSimpArgs false
set_option maxHeartbeats 64000000
set_option maxRecDepth 100000
namespace Go.Proofs.YtepagfkkjlbipaaGreat
open Tryz
section
open Go.RowKit
def u64C (V : List Int) : List Value := V.map (Value.int .u64)
theorem u64C_set (V : List Int) (i : Nat) (v : Int) : (u64C V).toArray.setIfInBounds i (.int .u64 v) = (u64C (V.set i v)).toArray := by
 unfold u64C
 rw [List.setIfInBounds_toArray, List.map_set]
theorem run_ixu {ad : Addr} {n cap i : Nat} (h0 : i < n) (w : World) : (Instr.indexAt 26 (.slice (some ad) n cap) (.int .i64 (i : Int))).run prog w = .ok (.pointer (some (ad.add i))) w := by
 go_simp
theorem run_ixg {g n cap i : Nat} (h0 : i < n) (w : World) : (Instr.indexAt 26 (.slice (some ⟨g, 0, none⟩) n cap) (.int .i64 (i : Int))).run prog w = .ok (.pointer (some ⟨g, i, none⟩)) w := by
 rw [run_ixu h0 w]
 simp [Addr.add]
 omega
def z260 : List Int := List.replicate 260 0
theorem cells_z260 : madeCells (Value.int .u64 0).cells (260 * 1) = (u64C z260).toArray := by kernel_rfl
theorem sizU : (prog.info? 31).map (·.size) = some 1 := by kernel_rfl
theorem infU : (prog.info? 31).map (fun i => (i.zero, i.size, i.bytes)) = some (some (.int .u64 0), 1, 8) := by kernel_rfl
def ValP (w : World) (e : Ending) (w' : World) : Prop := ∃ V : List Int, e = .returned (.slice (some ⟨w.heap.size, 0, none⟩) 260 260) ∧ V.length = 260 ∧ (∀ v ∈ V, U64 v) ∧ Blk w' w.heap.size 31 (u64C V).toArray ∧ Below w.heap.size w w'
end
section
open Go.RowKit
theorem src_cell {w : World} {b : Nat} {regs : List Int} {es : Value} {ex : ExD} (hl : regs.length = 11) (h : Blk w b 65 (srcC regs es ex).toArray) (k : Nat) : w.cell? ⟨b, 11 + k, none⟩ = [es, .int .i8 ex.kind, .int .i64 ex.v, .int .i64 ex.tgt, .int .i64 ex.els][k]? := by
 rw [h.cell (11 + k), List.getElem?_toArray]
 unfold srcC rgC
 rw [List.getElem?_append_right (by rw [List.length_map, hl]; omega), List.length_map, hl, Nat.add_sub_cancel_left]
theorem src_reg {w : World} {b : Nat} {regs : List Int} {es : Value} {ex : ExD} (hl : regs.length = 11) (h : Blk w b 65 (srcC regs es ex).toArray) {k : Nat} (hk : k < 11) : w.cell? ⟨b, k, none⟩ = some (.int .i64 (regs.getD k 0)) := by
 rw [h.cell k, List.getElem?_toArray]
 unfold srcC rgC
 rw [List.getElem?_append_left (by rw [List.length_map, hl]; exact hk), List.getElem?_map, List.getD_eq_getElem?_getD, List.getElem?_eq_getElem (by omega)]
 rfl
theorem reads_u64 {w : World} {g : Nat} {vs : List Int} (h : Blk w g 31 (u64C vs).toArray) (hl : vs.length = 260) : Reads w w.heap.size 1 (some ⟨g, 0, none⟩) 260 (vs.map (Value.int .u64)) := ⟨by rw [List.length_map]; omega, fun _ => ⟨_, rfl, h.lt, blk_list h⟩⟩
theorem u64_cell {w : World} {g : Nat} {V : List Int} (h : Blk w g 31 (u64C V).toArray) {k : Nat} (hk : k < V.length) : w.cell? ⟨g, k, none⟩ = some (.int .u64 (V.getD k 0)) := by
 rw [h.cell k, List.getElem?_toArray]
 unfold u64C
 rw [List.getElem?_map, List.getD_eq_getElem?_getD, List.getElem?_eq_getElem hk]
 rfl
end
end Go.Proofs.YtepagfkkjlbipaaGreat
