/- Part of this claim: EWide. -/
import Derived.Laws.Rows
import Derived.Laws.NewBlocks
import Derived.Test.YtfndkpifgmcomaaDoorGbXM1
namespace Go.Proofs.YtfndkpifgmcomaaDoor.XD
open Go Go.RowKit Go.Proofs.YtfndkpifgmcomaaDoorW.PrintWords Go.Proofs.YtfndkpifgmcomaaDoorW.PrintLast Go.Proofs.YtfndkpifgmcomaaDoorW.PrintMore
set_option linter.unusedVariables false
def flt_wide.f  : Option (Int × Int × Int) := some (8, 11, 52)
abbrev fmtsV : Value := .agg #[.int .i64 2, .int .i64 5, .int .i64 10, .int .i64 4, .int .i64 8, .int .i64 23, .int .i64 8, .int .i64 11, .int .i64 52]
theorem heap_new (w : World) (o : Obj) : (w.alloc o).heap[w.heap.size]? = some o := by
  show (w.heap.push o)[w.heap.size]? = some o
  exact Array.getElem?_push_size
set_option maxHeartbeats 2000000 in
set_option maxRecDepth 100000 in
theorem formats_calls (w : World) : Calls Tryd.prog 60 #[] w fun e w' => e = .returned fmtsV ∧ Below w.heap.size w w' := by
  go_enter Tryd.func60, Tryd.ntmps60
  go_wp2
  (try simp only [Exit.inBlock, Exit.then])
  refine bodyPost_ret_by (results_cell_row rfl _ _ w.heap.size 85 _ _ _ rfl (heap_new w _) Tryd.underlying85 rfl (by kernel_rfl)) rfl ?_
  exact ⟨rfl, below_alloc (Below.refl _ _) _⟩
set_option maxHeartbeats 2000000 in
set_option maxRecDepth 100000 in
theorem flt_wide.calls  (r1 : Int) (r2 : Int) (r3 : Int) (w : World) (h : flt_wide.f  = some (r1, r2, r3)) :
    Calls Tryd.prog 65 #[] w fun e w' => e = .returned (.agg #[.int .i64 r1, .int .i64 r2, .int .i64 r3]) ∧ Below w.heap.size w w' := by
  unfold flt_wide.f at h
  simp only [Option.some.injEq, Prod.mk.injEq] at h
  obtain ⟨rfl, rfl, rfl⟩ := h
  have i2 : ∀ W, (Instr.index 85 fmtsV (.int .i64 2)).run Tryd.prog W = .ok (.agg #[.int .i64 8, .int .i64 11, .int .i64 52]) W := by intro W; kernel_rfl
  go_enter Tryd.func65, Tryd.ntmps65
  go_wp2_with (go_at_call 60; (with_reducible refine (formats_calls _).mono ?_); rintro e w1 ⟨rfl, hb⟩; have BK : w1.heap[w.heap.size]? = some (.cells #[.int .i64 0, .int .i64 0, .int .i64 0] 84 (0, 0)) := by {rw [hb.block _ (by simp)]; exact heap_new w _}; have hz0 : w1.cell? ⟨w.heap.size, 0, none⟩ = some (.int .i64 0) := (blk_cell BK 0).trans rfl; have hz1 : w1.cell? ⟨w.heap.size, 1, none⟩ = some (.int .i64 0) := (blk_cell BK 1).trans rfl; have hz2 : w1.cell? ⟨w.heap.size, 2, none⟩ = some (.int .i64 0) := (blk_cell BK 2).trans rfl; have hf0 := blk_frozen BK 0; have hf1 := blk_frozen BK 1; have hf2 := blk_frozen BK 2)
  (try simp only [Exit.inBlock, Exit.then])
  refine bodyPost_ret_by (results_cell_row rfl _ _ w.heap.size 84 _ _ _ rfl (blk_put (cs := #[.int .i64 8, .int .i64 11, .int .i64 0]) (blk_put (cs := #[.int .i64 8, .int .i64 0, .int .i64 0]) (blk_put BK 0 _ rfl) 1 _ rfl) 2 _ rfl) Tryd.underlying84 rfl (by kernel_rfl)) rfl ?_
  exact ⟨rfl, below_set (below_set (below_set (below_step (below_alloc (Below.refl _ _) _) hb) (Nat.le_refl _)) (Nat.le_refl _)) (Nat.le_refl _)⟩
end Go.Proofs.YtfndkpifgmcomaaDoor.XD
