/- Part of this claim: X25, X26. -/
import Derived.Test.YtfndkpifgmcomaaDoorGbXM1
import Derived.Test.YtfndkpifgmcomaaDoorGbELen
import Derived.Test.YtfndkpifgmcomaaDoorGbEWide
section
namespace Go.Proofs.YtfndkpifgmcomaaDoor.XD
open Go.RowKit Go.Proofs.YtfndkpifgmcomaaDoorW.PrintWords Go.Proofs.YtfndkpifgmcomaaDoorW.PrintLast Go.Proofs.YtfndkpifgmcomaaDoorW.PrintMore
attribute [local go_sem] max2_int min2_int max_two min_two max_three min_three max_four min_four
set_option linter.unusedVariables false
set_option linter.unusedSimpArgs false
attribute [local go_sem high] eqA84
def flt_format_widen.f (a0_0 : Int) (a0_1 : Int) (a0_2 : Int) (a1 : Int) : Option (Int) := (flt_wide.f).bind fun bt499 => ((flt_format_parts.f a0_0 a0_1 a0_2 a1).bind fun bt503 => (if (a0_0 == bt499.1 && (a0_1 == bt499.2.1 && (a0_2 == bt499.2.2))) = true then (some a1) else ((flt_format_top.f a0_0 a0_1 a0_2).bind fun t506 => (if bt503.2.1 = t506 then ((flt_format_top.f bt499.1 bt499.2.1 bt499.2.2).bind fun t507 => (if 0 ≤ (wrap64 (bt499.2.2 - a0_2)) then ((flt_format_join.f bt499.1 bt499.2.1 bt499.2.2 bt503.1 t507 (shl .u64 bt503.2.2 (wrap64 (bt499.2.2 - a0_2)))).bind fun t508 => (some t508)) else (none))) else (if bt503.2.1 > 0 then ((flt_format_bias.f a0_0 a0_1 a0_2).bind fun t509 => ((flt_format_bias.f bt499.1 bt499.2.1 bt499.2.2).bind fun t510 => (if 0 ≤ (wrap64 (bt499.2.2 - a0_2)) then ((flt_format_join.f bt499.1 bt499.2.1 bt499.2.2 bt503.1 (wrap64 ((wrap64 (bt503.2.1 - t509)) + t510)) (shl .u64 bt503.2.2 (wrap64 (bt499.2.2 - a0_2)))).bind fun t511 => (some t511)) else (none)))) else (if bt503.2.2 = 0 then ((flt_format_join.f bt499.1 bt499.2.1 bt499.2.2 bt503.1 0 0).bind fun t512 => (some t512)) else ((bits_Len64.f bt503.2.2).bind fun t513 => ((flt_format_bias.f a0_0 a0_1 a0_2).bind fun t514 => ((flt_format_bias.f bt499.1 bt499.2.1 bt499.2.2).bind fun t515 => (if 0 ≤ (wrap64 (bt499.2.2 - (wrap64 (t513 - 1)))) then (if 0 ≤ bt499.2.2 then ((flt_format_join.f bt499.1 bt499.2.1 bt499.2.2 bt503.1 (wrap64 ((wrap64 ((wrap64 ((wrap64 ((wrap64 (t513 - 1)) + 1)) - t514)) - a0_2)) + t515)) (Go.bits .and .u64 (shl .u64 bt503.2.2 (wrap64 (bt499.2.2 - (wrap64 (t513 - 1))))) (IntKind.u64.wrap ((shl .u64 1 bt499.2.2) - 1)))).bind fun t516 => (some t516)) else (none)) else (none)))))))))))
def flt_format_widen.T7 : Bool × List (List Nat × List Nat) := (true, [([], []), ([], []), ([], []), ([2], [2]), ([], []), ([], []), ([4, 5], [4, 5]), ([0, 1, 3, 6, 3], [0, 1, 3, 6]), ([7, 7, 0, 1, 2, 3, 4, 5, 6, 7], [7])])
def flt_format_widen.B7 : List Nat := [0, 0, 0, 4, 0, 0, 48, 127, 255]
theorem flt_format_widen.tab7 : rtab .any (opsOf Tryd.f62 7) = flt_format_widen.T7 := by kernel_rfl
theorem flt_format_widen.bits7 : waitsOk flt_format_widen.T7.2 flt_format_widen.B7 = true := by kernel_rfl
def flt_format_widen.T9 : Bool × List (List Nat × List Nat) := (true, [([], []), ([], []), ([], []), ([], []), ([3], [3]), ([2, 4], [2, 4]), ([], []), ([6, 4], [6]), ([5, 7], [5, 7]), ([], []), ([], []), ([9, 10], [9, 10]), ([0, 1, 8, 11, 7], [0, 1, 8, 11]), ([12, 12, 0, 1, 2, 3, 4, 5, 6, 7, 8, 9, 10, 11, 12], [12])])
def flt_format_widen.B9 : List Nat := [0, 0, 0, 0, 8, 28, 0, 88, 252, 0, 0, 1536, 4095, 8191]
theorem flt_format_widen.tab9 : rtab .any (opsOf Tryd.f62 9) = flt_format_widen.T9 := by kernel_rfl
theorem flt_format_widen.bits9 : waitsOk flt_format_widen.T9.2 flt_format_widen.B9 = true := by kernel_rfl
def flt_format_widen.T13 : Bool × List (List Nat × List Nat) := (true, [([], []), ([], []), ([], []), ([2], [2]), ([], []), ([4], [4]), ([3, 5], [3, 5]), ([], []), ([7], [7]), ([6, 8], [6, 8]), ([], []), ([10, 5], [10]), ([9, 11], [9, 11]), ([], []), ([], []), ([14], [14]), ([], []), ([15, 16], [15, 16]), ([13, 17], [13, 17]), ([], []), ([19], [19]), ([20], [20]), ([21], [21]), ([18, 22], [18, 22]), ([0, 1, 12, 23, 11], [0, 1, 12, 23]), ([24, 24, 0, 1, 2, 3, 4, 5, 6, 7, 8, 9, 10, 11, 12, 13, 14, 15, 16, 17, 18, 19, 20, 21, 22, 23, 24], [24])])
def flt_format_widen.B13 : List Nat := [0, 0, 0, 4, 0, 16, 60, 0, 128, 508, 0, 1072, 4092, 0, 0, 16384, 0, 114688, 253952, 0, 524288, 1572864, 3670016, 8380416, 16777215, 33554431]
theorem flt_format_widen.tab13 : rtab .any (opsOf Tryd.f62 13) = flt_format_widen.T13 := by kernel_rfl
theorem flt_format_widen.bits13 : waitsOk flt_format_widen.T13.2 flt_format_widen.B13 = true := by kernel_rfl
set_option maxHeartbeats 8000000 in
set_option maxRecDepth 100000 in
theorem flt_format_widen.calls (a0_0 : Int) (a0_1 : Int) (a0_2 : Int) (a1 : Int) (r : Int) (w : World) (h : flt_format_widen.f a0_0 a0_1 a0_2 a1 = some r) :
    Calls Tryd.prog 62 #[.agg #[.int .i64 a0_0, .int .i64 a0_1, .int .i64 a0_2], .int .u64 a1] w fun e w' => e = .returned (.int .u64 r) ∧ Below w.heap.size w w' := by
  have hu84 := Tryd.underlying84
  have HB := Aside0.mk (Below.refl w.heap.size w)
  have H : ((flt_wide.f).bind fun bt499 => ((flt_format_parts.f a0_0 a0_1 a0_2 a1).bind fun bt503 => (if (a0_0 == bt499.1 && (a0_1 == bt499.2.1 && (a0_2 == bt499.2.2))) = true then (some a1) else ((flt_format_top.f a0_0 a0_1 a0_2).bind fun t506 => (if bt503.2.1 = t506 then ((flt_format_top.f bt499.1 bt499.2.1 bt499.2.2).bind fun t507 => (if 0 ≤ (wrap64 (bt499.2.2 - a0_2)) then ((flt_format_join.f bt499.1 bt499.2.1 bt499.2.2 bt503.1 t507 (shl .u64 bt503.2.2 (wrap64 (bt499.2.2 - a0_2)))).bind fun t508 => (some t508)) else (none))) else (if bt503.2.1 > 0 then ((flt_format_bias.f a0_0 a0_1 a0_2).bind fun t509 => ((flt_format_bias.f bt499.1 bt499.2.1 bt499.2.2).bind fun t510 => (if 0 ≤ (wrap64 (bt499.2.2 - a0_2)) then ((flt_format_join.f bt499.1 bt499.2.1 bt499.2.2 bt503.1 (wrap64 ((wrap64 (bt503.2.1 - t509)) + t510)) (shl .u64 bt503.2.2 (wrap64 (bt499.2.2 - a0_2)))).bind fun t511 => (some t511)) else (none)))) else (if bt503.2.2 = 0 then ((flt_format_join.f bt499.1 bt499.2.1 bt499.2.2 bt503.1 0 0).bind fun t512 => (some t512)) else ((bits_Len64.f bt503.2.2).bind fun t513 => ((flt_format_bias.f a0_0 a0_1 a0_2).bind fun t514 => ((flt_format_bias.f bt499.1 bt499.2.1 bt499.2.2).bind fun t515 => (if 0 ≤ (wrap64 (bt499.2.2 - (wrap64 (t513 - 1)))) then (if 0 ≤ bt499.2.2 then ((flt_format_join.f bt499.1 bt499.2.1 bt499.2.2 bt503.1 (wrap64 ((wrap64 ((wrap64 ((wrap64 ((wrap64 (t513 - 1)) + 1)) - t514)) - a0_2)) + t515)) (Go.bits .and .u64 (shl .u64 bt503.2.2 (wrap64 (bt499.2.2 - (wrap64 (t513 - 1))))) (IntKind.u64.wrap ((shl .u64 1 bt499.2.2) - 1)))).bind fun t516 => (some t516)) else (none)) else (none)))))))))))) = some r := h
  clear h
  replace H := Option.bind_eq_some_iff.mp H
  obtain ⟨⟨t499, t500, t501⟩, A30, H⟩ := H
  replace H : ((flt_format_parts.f a0_0 a0_1 a0_2 a1).bind fun bt503 => (if (a0_0 == t499 && (a0_1 == t500 && (a0_2 == t501))) = true then (some a1) else ((flt_format_top.f a0_0 a0_1 a0_2).bind fun t506 => (if bt503.2.1 = t506 then ((flt_format_top.f t499 t500 t501).bind fun t507 => (if 0 ≤ (wrap64 (t501 - a0_2)) then ((flt_format_join.f t499 t500 t501 bt503.1 t507 (shl .u64 bt503.2.2 (wrap64 (t501 - a0_2)))).bind fun t508 => (some t508)) else (none))) else (if bt503.2.1 > 0 then ((flt_format_bias.f a0_0 a0_1 a0_2).bind fun t509 => ((flt_format_bias.f t499 t500 t501).bind fun t510 => (if 0 ≤ (wrap64 (t501 - a0_2)) then ((flt_format_join.f t499 t500 t501 bt503.1 (wrap64 ((wrap64 (bt503.2.1 - t509)) + t510)) (shl .u64 bt503.2.2 (wrap64 (t501 - a0_2)))).bind fun t511 => (some t511)) else (none)))) else (if bt503.2.2 = 0 then ((flt_format_join.f t499 t500 t501 bt503.1 0 0).bind fun t512 => (some t512)) else ((bits_Len64.f bt503.2.2).bind fun t513 => ((flt_format_bias.f a0_0 a0_1 a0_2).bind fun t514 => ((flt_format_bias.f t499 t500 t501).bind fun t515 => (if 0 ≤ (wrap64 (t501 - (wrap64 (t513 - 1)))) then (if 0 ≤ t501 then ((flt_format_join.f t499 t500 t501 bt503.1 (wrap64 ((wrap64 ((wrap64 ((wrap64 ((wrap64 (t513 - 1)) + 1)) - t514)) - a0_2)) + t515)) (Go.bits .and .u64 (shl .u64 bt503.2.2 (wrap64 (t501 - (wrap64 (t513 - 1))))) (IntKind.u64.wrap ((shl .u64 1 t501) - 1)))).bind fun t516 => (some t516)) else (none)) else (none))))))))))) = some r := H
  have A3 := Aside0.mk A30
  clear A30
  replace H := Option.bind_eq_some_iff.mp H
  obtain ⟨⟨t503, t504, t505⟩, A40, H⟩ := H
  replace H : (if (a0_0 == t499 && (a0_1 == t500 && (a0_2 == t501))) = true then (some a1) else ((flt_format_top.f a0_0 a0_1 a0_2).bind fun t506 => (if t504 = t506 then ((flt_format_top.f t499 t500 t501).bind fun t507 => (if 0 ≤ (wrap64 (t501 - a0_2)) then ((flt_format_join.f t499 t500 t501 t503 t507 (shl .u64 t505 (wrap64 (t501 - a0_2)))).bind fun t508 => (some t508)) else (none))) else (if t504 > 0 then ((flt_format_bias.f a0_0 a0_1 a0_2).bind fun t509 => ((flt_format_bias.f t499 t500 t501).bind fun t510 => (if 0 ≤ (wrap64 (t501 - a0_2)) then ((flt_format_join.f t499 t500 t501 t503 (wrap64 ((wrap64 (t504 - t509)) + t510)) (shl .u64 t505 (wrap64 (t501 - a0_2)))).bind fun t511 => (some t511)) else (none)))) else (if t505 = 0 then ((flt_format_join.f t499 t500 t501 t503 0 0).bind fun t512 => (some t512)) else ((bits_Len64.f t505).bind fun t513 => ((flt_format_bias.f a0_0 a0_1 a0_2).bind fun t514 => ((flt_format_bias.f t499 t500 t501).bind fun t515 => (if 0 ≤ (wrap64 (t501 - (wrap64 (t513 - 1)))) then (if 0 ≤ t501 then ((flt_format_join.f t499 t500 t501 t503 (wrap64 ((wrap64 ((wrap64 ((wrap64 ((wrap64 (t513 - 1)) + 1)) - t514)) - a0_2)) + t515)) (Go.bits .and .u64 (shl .u64 t505 (wrap64 (t501 - (wrap64 (t513 - 1))))) (IntKind.u64.wrap ((shl .u64 1 t501) - 1)))).bind fun t516 => (some t516)) else (none)) else (none)))))))))) = some r := H
  have A4 := Aside0.mk A40
  clear A40
  by_cases c5 : (a0_0 == t499 && (a0_1 == t500 && (a0_2 == t501))) = true
  · rw [if_pos c5] at H
    have c5b0 : (a0_0 == t499 && (a0_1 == t500 && (a0_2 == t501))) = true := c5
    (try (have c5b1 : decide (a0_0 = t499 && (a0_1 == t500 && (a0_2 == t501))) = true := by simpa using c5))
    (try (have c5b2 : (a0_0 == t499 && (a0_1 == t500 && (a0_2 == t501))) = true := by simpa using c5))
    clear c5
    obtain rfl := Option.some.inj H
    go_enter Tryd.func62, Tryd.ntmps62
    go_wp2_with (first | ((with_reducible refine gate_dst (N := 2) rfl ?_); refine box_event ?hg (N := 2) ?hd (cs := #[.int .i64 a0_0, .int .i64 a0_1, .int .i64 a0_2]) (t := 84) ?hr ?_; (case hd => rfl); (case hg => rfl); (case hr => first | (go_simp; done) | (go_simp; rfl)); intro gb498 hg w6 hbox hb; have n0_ := Aside0.mk (below_step (by repeat (first | (with_reducible first | exact HB.out | apply below_alloc | apply pw_below_drewN | apply below_drew1) | exact HB.out)) hb); have n1_ := Aside0.mk (hbox); have n2_ := Aside0.mk ((by rw [hg]; exact (below_size (by repeat (first | (with_reducible first | exact HB.out | apply below_alloc | apply pw_below_drewN | apply below_drew1) | exact HB.out))) : w.heap.size ≤ gb498)); have n3_ := Aside0.mk ((by rw [hg]; exact (below_size (by repeat (first | (with_reducible first | exact HB.out | apply below_alloc | apply pw_below_drewN | apply below_drew1) | exact HB.out))) : w.heap.size ≤ gb498)); clear HB; have HB := n0_; have BK498 := n1_; have GW498 := n2_; have GE498 := n3_; clear n0_ n1_ n2_ n3_; clear hb hbox hg) | ((with_reducible refine gate_callee (f := 65) rfl ?_); refine goesL_ (some 11) rfl rfl Tryd.func65 (by kernel_rfl) rfl #[] rfl (by (try simp only [List.map_toArray, List.map_cons, List.map_nil]); first | done | rfl | (simp only [List.length_drop, List.length_take]; rfl)) ?_; (with_reducible refine (flt_wide.calls  t499 t500 t501 _ A3.out).mono ?_); rintro e w7 ⟨rfl, hb⟩; refine ⟨_, rfl, ?_⟩; have n0_ := Aside0.mk (blk_below (g := gb498) (o := .cells #[.int .i64 a0_0, .int .i64 a0_1, .int .i64 a0_2] 84 (0, 0)) (by (with_reducible repeat (first | refine blk_drewN ?_ _ | refine blk_drew ?_ | refine blk_alloc ?_ _)); exact BK498.out) hb); have n1_ := Aside0.mk (below_step (by repeat (first | (with_reducible first | exact HB.out | apply below_alloc | apply pw_below_drewN | apply below_drew1 | refine below_set ?_ GE498.out) | exact HB.out)) hb); clear BK498; clear HB; have BK498 := n0_; have HB := n1_; clear n0_ n1_; (try clear hb); (try clear hb2); (try clear hk); (try clear hi)) | ((with_reducible refine gate_dst (N := 5) rfl ?_); refine box_event ?hg (N := 5) ?hd (cs := #[.int .i64 0, .int .i64 0, .int .i64 0]) (t := 84) ?hr ?_; (case hd => rfl); (case hg => rfl); (case hr => first | (go_simp; done) | (go_simp; rfl)); intro gb502 hg w8 hbox hb; have n0_ := Aside0.mk (blk_below (g := gb498) (o := .cells #[.int .i64 a0_0, .int .i64 a0_1, .int .i64 a0_2] 84 (0, 0)) (by (with_reducible repeat (first | refine blk_drewN ?_ _ | refine blk_drew ?_ | refine blk_alloc ?_ _)); exact BK498.out) hb); have n1_ := Aside0.mk (below_step (by repeat (first | (with_reducible first | exact HB.out | apply below_alloc | apply pw_below_drewN | apply below_drew1 | refine below_set ?_ GE498.out) | exact HB.out)) hb); have n2_ := Aside0.mk (hbox); have n3_ := Aside0.mk ((by rw [hg]; exact (below_size (by repeat (first | (with_reducible first | exact HB.out | apply below_alloc | apply pw_below_drewN | apply below_drew1 | refine below_set ?_ GE498.out) | exact HB.out))) : w.heap.size ≤ gb502)); have n4_ := Aside0.mk ((by rw [hg]; exact (below_size (by repeat (first | (with_reducible first | exact HB.out | apply below_alloc | apply pw_below_drewN | apply below_drew1 | refine below_set ?_ GE498.out) | exact HB.out))) : w.heap.size ≤ gb502)); have n5_ := Aside0.mk ((by rw [hg]; exact Nat.ne_of_lt (blk_lt (g := gb498) (o := .cells #[.int .i64 a0_0, .int .i64 a0_1, .int .i64 a0_2] 84 (0, 0)) (by (with_reducible repeat (first | refine blk_drewN ?_ _ | refine blk_drew ?_ | refine blk_alloc ?_ _)); exact BK498.out)) : gb498 ≠ gb502)); have n6_ := Aside0.mk ((by rw [hg]; exact Nat.ne_of_gt (blk_lt (g := gb498) (o := .cells #[.int .i64 a0_0, .int .i64 a0_1, .int .i64 a0_2] 84 (0, 0)) (by (with_reducible repeat (first | refine blk_drewN ?_ _ | refine blk_drew ?_ | refine blk_alloc ?_ _)); exact BK498.out)) : gb502 ≠ gb498)); clear BK498; clear HB; have BK498 := n0_; have HB := n1_; have BK502 := n2_; have GW502 := n3_; have GE502 := n4_; have NB498_502 := n5_; have NB502_498 := n6_; clear n0_ n1_ n2_ n3_ n4_ n5_ n6_; clear hb hbox hg; have hnb9 := NB502_498.out; have hnc9 := NB498_502.out; have hcz10_0 : w8.cell? ⟨gb502, 0, none⟩ = some (.int .i64 0) := (blk_cell BK502.out 0).trans rfl; have hcz10_1 : w8.cell? ⟨gb502, 1, none⟩ = some (.int .i64 0) := (blk_cell BK502.out 1).trans rfl; have hcz10_2 : w8.cell? ⟨gb502, 2, none⟩ = some (.int .i64 0) := (blk_cell BK502.out 2).trans rfl; have hfz10_0 := blk_frozen BK502.out 0; have hfz10_1 := blk_frozen BK502.out 1; have hfz10_2 := blk_frozen BK502.out 2; have hcz11_0 : w8.cell? ⟨gb498, 0, none⟩ = some (.int .i64 a0_0) := (blk_cell BK498.out 0).trans rfl; have hcz11_1 : w8.cell? ⟨gb498, 1, none⟩ = some (.int .i64 a0_1) := (blk_cell BK498.out 1).trans rfl; have hcz11_2 : w8.cell? ⟨gb498, 2, none⟩ = some (.int .i64 a0_2) := (blk_cell BK498.out 2).trans rfl; have hfz11_0 := blk_frozen BK498.out 0; have hfz11_1 := blk_frozen BK498.out 1; have hfz11_2 := blk_frozen BK498.out 2) | ((with_reducible refine gate_callee (f := 67) rfl ?_); refine goesL_ (some 15) rfl rfl Tryd.func67 (by kernel_rfl) rfl #[.agg #[.int .i64 a0_0, .int .i64 a0_1, .int .i64 a0_2], .int .u64 a1] rfl (by (try simp only [List.map_toArray, List.map_cons, List.map_nil]); first | done | rfl | (simp only [List.length_drop, List.length_take]; rfl)) ?_; (with_reducible refine (flt_format_parts.calls a0_0 a0_1 a0_2 a1 t503 t504 t505 _ A4.out).mono ?_); rintro e w12 ⟨rfl, hb⟩; refine ⟨_, rfl, ?_⟩; have n0_ := Aside0.mk (blk_below (g := gb498) (o := .cells #[.int .i64 a0_0, .int .i64 a0_1, .int .i64 a0_2] 84 (0, 0)) (by (with_reducible repeat (first | refine blk_drewN ?_ _ | refine blk_drew ?_ | refine blk_alloc ?_ _)); refine blk_far ?_ NB498_502.out _; (with_reducible repeat (first | refine blk_drewN ?_ _ | refine blk_drew ?_ | refine blk_alloc ?_ _)); refine blk_far ?_ NB498_502.out _; (with_reducible repeat (first | refine blk_drewN ?_ _ | refine blk_drew ?_ | refine blk_alloc ?_ _)); refine blk_far ?_ NB498_502.out _; (with_reducible repeat (first | refine blk_drewN ?_ _ | refine blk_drew ?_ | refine blk_alloc ?_ _)); exact BK498.out) hb); have n1_ := Aside0.mk (blk_below (g := gb502) (o := .cells #[.int .i64 t499, .int .i64 t500, .int .i64 t501] 84 (0, 0)) (by (with_reducible repeat (first | refine blk_drewN ?_ _ | refine blk_drew ?_ | refine blk_alloc ?_ _)); refine blk_put (cs := #[.int .i64 t499, .int .i64 t500, .int .i64 0]) ?_ 2 _ rfl; (with_reducible repeat (first | refine blk_drewN ?_ _ | refine blk_drew ?_ | refine blk_alloc ?_ _)); refine blk_put (cs := #[.int .i64 t499, .int .i64 0, .int .i64 0]) ?_ 1 _ rfl; (with_reducible repeat (first | refine blk_drewN ?_ _ | refine blk_drew ?_ | refine blk_alloc ?_ _)); refine blk_put (cs := #[.int .i64 0, .int .i64 0, .int .i64 0]) ?_ 0 _ rfl; (with_reducible repeat (first | refine blk_drewN ?_ _ | refine blk_drew ?_ | refine blk_alloc ?_ _)); exact BK502.out) hb); have n2_ := Aside0.mk (below_step (by repeat (first | (with_reducible first | exact HB.out | apply below_alloc | apply pw_below_drewN | apply below_drew1 | refine below_set ?_ GE498.out | refine below_set ?_ GE502.out) | exact HB.out)) hb); clear BK498; clear BK502; clear HB; have BK498 := n0_; have BK502 := n1_; have HB := n2_; clear n0_ n1_ n2_; (try clear hb); (try clear hb2); (try clear hk); (try clear hi); have hcz13_0 : w12.cell? ⟨gb502, 0, none⟩ = some (.int .i64 t499) := (blk_cell BK502.out 0).trans rfl; have hcz13_1 : w12.cell? ⟨gb502, 1, none⟩ = some (.int .i64 t500) := (blk_cell BK502.out 1).trans rfl; have hcz13_2 : w12.cell? ⟨gb502, 2, none⟩ = some (.int .i64 t501) := (blk_cell BK502.out 2).trans rfl; have hfz13_0 := blk_frozen BK502.out 0; have hfz13_1 := blk_frozen BK502.out 1; have hfz13_2 := blk_frozen BK502.out 2; have hcz14_0 : w12.cell? ⟨gb498, 0, none⟩ = some (.int .i64 a0_0) := (blk_cell BK498.out 0).trans rfl; have hcz14_1 : w12.cell? ⟨gb498, 1, none⟩ = some (.int .i64 a0_1) := (blk_cell BK498.out 1).trans rfl; have hcz14_2 : w12.cell? ⟨gb498, 2, none⟩ = some (.int .i64 a0_2) := (blk_cell BK498.out 2).trans rfl; have hfz14_0 := blk_frozen BK498.out 0; have hfz14_1 := blk_frozen BK498.out 1; have hfz14_2 := blk_frozen BK498.out 2))
    go_ret
    exact ⟨by first | rfl | (simp [errW_none, errW_some] <;> rfl) | (simp [*, errW_none, errW_some] <;> rfl), by repeat (first | (with_reducible first | exact HB.out | apply below_alloc | apply pw_below_drewN | apply below_drew1 | refine below_set ?_ GE498.out | refine below_set ?_ GE502.out) | exact HB.out)⟩
  · rw [if_neg c5] at H
    have c5b0 : (a0_0 == t499 && (a0_1 == t500 && (a0_2 == t501))) = false := by simpa using c5
    (try (have c5b1 : decide (a0_0 = t499 && (a0_1 == t500 && (a0_2 == t501))) = false := by simpa using c5))
    (try (have c5b2 : (a0_0 == t499 && (a0_1 == t500 && (a0_2 == t501))) = false := by simpa using c5))
    (try (have c5b3 : ¬ (a0_0 = t499 && (a0_1 == t500 && (a0_2 == t501))) := by simpa using c5))
    clear c5
    replace H := Option.bind_eq_some_iff.mp H
    obtain ⟨t506, A150, H⟩ := H
    replace H : (if t504 = t506 then ((flt_format_top.f t499 t500 t501).bind fun t507 => (if 0 ≤ (wrap64 (t501 - a0_2)) then ((flt_format_join.f t499 t500 t501 t503 t507 (shl .u64 t505 (wrap64 (t501 - a0_2)))).bind fun t508 => (some t508)) else (none))) else (if t504 > 0 then ((flt_format_bias.f a0_0 a0_1 a0_2).bind fun t509 => ((flt_format_bias.f t499 t500 t501).bind fun t510 => (if 0 ≤ (wrap64 (t501 - a0_2)) then ((flt_format_join.f t499 t500 t501 t503 (wrap64 ((wrap64 (t504 - t509)) + t510)) (shl .u64 t505 (wrap64 (t501 - a0_2)))).bind fun t511 => (some t511)) else (none)))) else (if t505 = 0 then ((flt_format_join.f t499 t500 t501 t503 0 0).bind fun t512 => (some t512)) else ((bits_Len64.f t505).bind fun t513 => ((flt_format_bias.f a0_0 a0_1 a0_2).bind fun t514 => ((flt_format_bias.f t499 t500 t501).bind fun t515 => (if 0 ≤ (wrap64 (t501 - (wrap64 (t513 - 1)))) then (if 0 ≤ t501 then ((flt_format_join.f t499 t500 t501 t503 (wrap64 ((wrap64 ((wrap64 ((wrap64 ((wrap64 (t513 - 1)) + 1)) - t514)) - a0_2)) + t515)) (Go.bits .and .u64 (shl .u64 t505 (wrap64 (t501 - (wrap64 (t513 - 1))))) (IntKind.u64.wrap ((shl .u64 1 t501) - 1)))).bind fun t516 => (some t516)) else (none)) else (none)))))))) = some r := H
    have A15 := Aside0.mk A150
    clear A150
    by_cases c16 : t504 = t506
    · rw [if_pos c16] at H
      have c16b0 : (t504 == t506) = true := beq_iff_eq.mpr c16
      have c16b1 : (t504 != t506) = false := bne_eq_false_iff_eq.mpr c16
      clear c16
      replace H := Option.bind_eq_some_iff.mp H
      obtain ⟨t507, A170, H⟩ := H
      replace H : (if 0 ≤ (wrap64 (t501 - a0_2)) then ((flt_format_join.f t499 t500 t501 t503 t507 (shl .u64 t505 (wrap64 (t501 - a0_2)))).bind fun t508 => (some t508)) else (none)) = some r := H
      have A17 := Aside0.mk A170
      clear A170
      obtain ⟨ji18, hji18⟩ : ∃ j_ : Int, (wrap64 (t501 - a0_2)) = j_ := ⟨_, rfl⟩
      replace H : (if 0 ≤ (ji18) then ((flt_format_join.f t499 t500 t501 t503 t507 (shl .u64 t505 (ji18))).bind fun t508 => (some t508)) else (none)) = some r := by first | (rw [hji18] at H; exact H) | (simp only [hji18] at H ⊢; exact H)
      (try rw [hji18] at A3)
      (try rw [hji18] at A4)
      (try rw [hji18] at A15)
      (try rw [hji18] at A17)
      have hji18w : (IntKind.i64.wrap (t501 - a0_2)) = ji18 := (i64_w _).trans hji18
      by_cases c19 : 0 ≤ (ji18)
      · rw [if_pos c19] at H
        have c19b0 := eq_true c19
        have c19b1 : decide (0 ≤ (ji18)) = true := decide_eq_true c19
        clear c19
        obtain ⟨ji20, hji20⟩ : ∃ j_ : Int, (shl .u64 t505 (ji18)) = j_ := ⟨_, rfl⟩
        replace H : ((flt_format_join.f t499 t500 t501 t503 t507 (ji20)).bind fun t508 => (some t508)) = some r := by first | (rw [hji20] at H; exact H) | (simp only [hji20] at H ⊢; exact H)
        (try rw [hji20] at A3)
        (try rw [hji20] at A4)
        (try rw [hji20] at A15)
        (try rw [hji20] at A17)
        have hji20_ : (IntKind.u64.wrap (t505 * 2 ^ min (ji18).toNat 64)) = ji20 := hji20
        have hji20z : (ji18) ≤ 64 → (IntKind.u64.wrap (t505 * 2 ^ (ji18).toNat)) = ji20 := shl_small hji20
        replace H := Option.bind_eq_some_iff.mp H
        obtain ⟨t508, A210, H⟩ := H
        replace H : (some t508) = some r := H
        have A21 := Aside0.mk A210
        clear A210
        obtain rfl := Option.some.inj H
        go_enter Tryd.func62, Tryd.ntmps62
        try go_wp2_with (first | ((with_reducible refine gate_dst (N := 2) rfl ?_); refine box_event ?hg (N := 2) ?hd (cs := #[.int .i64 a0_0, .int .i64 a0_1, .int .i64 a0_2]) (t := 84) ?hr ?_; (case hd => rfl); (case hg => rfl); (case hr => first | (go_simp; done) | (go_simp; rfl)); intro gb498 hg w22 hbox hb; have n0_ := Aside0.mk (below_step (by repeat (first | (with_reducible first | exact HB.out | apply below_alloc | apply pw_below_drewN | apply below_drew1) | exact HB.out)) hb); have n1_ := Aside0.mk (hbox); have n2_ := Aside0.mk ((by rw [hg]; exact (below_size (by repeat (first | (with_reducible first | exact HB.out | apply below_alloc | apply pw_below_drewN | apply below_drew1) | exact HB.out))) : w.heap.size ≤ gb498)); have n3_ := Aside0.mk ((by rw [hg]; exact (below_size (by repeat (first | (with_reducible first | exact HB.out | apply below_alloc | apply pw_below_drewN | apply below_drew1) | exact HB.out))) : w.heap.size ≤ gb498)); clear HB; have HB := n0_; have BK498 := n1_; have GW498 := n2_; have GE498 := n3_; clear n0_ n1_ n2_ n3_; clear hb hbox hg) | ((with_reducible refine gate_callee (f := 65) rfl ?_); refine goesL_ (some 11) rfl rfl Tryd.func65 (by kernel_rfl) rfl #[] rfl (by (try simp only [List.map_toArray, List.map_cons, List.map_nil]); first | done | rfl | (simp only [List.length_drop, List.length_take]; rfl)) ?_; (with_reducible refine (flt_wide.calls  t499 t500 t501 _ A3.out).mono ?_); rintro e w23 ⟨rfl, hb⟩; refine ⟨_, rfl, ?_⟩; have n0_ := Aside0.mk (blk_below (g := gb498) (o := .cells #[.int .i64 a0_0, .int .i64 a0_1, .int .i64 a0_2] 84 (0, 0)) (by (with_reducible repeat (first | refine blk_drewN ?_ _ | refine blk_drew ?_ | refine blk_alloc ?_ _)); exact BK498.out) hb); have n1_ := Aside0.mk (below_step (by repeat (first | (with_reducible first | exact HB.out | apply below_alloc | apply pw_below_drewN | apply below_drew1 | refine below_set ?_ GE498.out) | exact HB.out)) hb); clear BK498; clear HB; have BK498 := n0_; have HB := n1_; clear n0_ n1_; (try clear hb); (try clear hb2); (try clear hk); (try clear hi)) | ((with_reducible refine gate_dst (N := 5) rfl ?_); refine box_event ?hg (N := 5) ?hd (cs := #[.int .i64 0, .int .i64 0, .int .i64 0]) (t := 84) ?hr ?_; (case hd => rfl); (case hg => rfl); (case hr => first | (go_simp; done) | (go_simp; rfl)); intro gb502 hg w24 hbox hb; have n0_ := Aside0.mk (blk_below (g := gb498) (o := .cells #[.int .i64 a0_0, .int .i64 a0_1, .int .i64 a0_2] 84 (0, 0)) (by (with_reducible repeat (first | refine blk_drewN ?_ _ | refine blk_drew ?_ | refine blk_alloc ?_ _)); exact BK498.out) hb); have n1_ := Aside0.mk (below_step (by repeat (first | (with_reducible first | exact HB.out | apply below_alloc | apply pw_below_drewN | apply below_drew1 | refine below_set ?_ GE498.out) | exact HB.out)) hb); have n2_ := Aside0.mk (hbox); have n3_ := Aside0.mk ((by rw [hg]; exact (below_size (by repeat (first | (with_reducible first | exact HB.out | apply below_alloc | apply pw_below_drewN | apply below_drew1 | refine below_set ?_ GE498.out) | exact HB.out))) : w.heap.size ≤ gb502)); have n4_ := Aside0.mk ((by rw [hg]; exact (below_size (by repeat (first | (with_reducible first | exact HB.out | apply below_alloc | apply pw_below_drewN | apply below_drew1 | refine below_set ?_ GE498.out) | exact HB.out))) : w.heap.size ≤ gb502)); have n5_ := Aside0.mk ((by rw [hg]; exact Nat.ne_of_lt (blk_lt (g := gb498) (o := .cells #[.int .i64 a0_0, .int .i64 a0_1, .int .i64 a0_2] 84 (0, 0)) (by (with_reducible repeat (first | refine blk_drewN ?_ _ | refine blk_drew ?_ | refine blk_alloc ?_ _)); exact BK498.out)) : gb498 ≠ gb502)); have n6_ := Aside0.mk ((by rw [hg]; exact Nat.ne_of_gt (blk_lt (g := gb498) (o := .cells #[.int .i64 a0_0, .int .i64 a0_1, .int .i64 a0_2] 84 (0, 0)) (by (with_reducible repeat (first | refine blk_drewN ?_ _ | refine blk_drew ?_ | refine blk_alloc ?_ _)); exact BK498.out)) : gb502 ≠ gb498)); clear BK498; clear HB; have BK498 := n0_; have HB := n1_; have BK502 := n2_; have GW502 := n3_; have GE502 := n4_; have NB498_502 := n5_; have NB502_498 := n6_; clear n0_ n1_ n2_ n3_ n4_ n5_ n6_; clear hb hbox hg; have hnb25 := NB502_498.out; have hnc25 := NB498_502.out; have hcz26_0 : w24.cell? ⟨gb502, 0, none⟩ = some (.int .i64 0) := (blk_cell BK502.out 0).trans rfl; have hcz26_1 : w24.cell? ⟨gb502, 1, none⟩ = some (.int .i64 0) := (blk_cell BK502.out 1).trans rfl; have hcz26_2 : w24.cell? ⟨gb502, 2, none⟩ = some (.int .i64 0) := (blk_cell BK502.out 2).trans rfl; have hfz26_0 := blk_frozen BK502.out 0; have hfz26_1 := blk_frozen BK502.out 1; have hfz26_2 := blk_frozen BK502.out 2; have hcz27_0 : w24.cell? ⟨gb498, 0, none⟩ = some (.int .i64 a0_0) := (blk_cell BK498.out 0).trans rfl; have hcz27_1 : w24.cell? ⟨gb498, 1, none⟩ = some (.int .i64 a0_1) := (blk_cell BK498.out 1).trans rfl; have hcz27_2 : w24.cell? ⟨gb498, 2, none⟩ = some (.int .i64 a0_2) := (blk_cell BK498.out 2).trans rfl; have hfz27_0 := blk_frozen BK498.out 0; have hfz27_1 := blk_frozen BK498.out 1; have hfz27_2 := blk_frozen BK498.out 2) | ((with_reducible refine gate_callee (f := 67) rfl ?_); refine goesL_ (some 15) rfl rfl Tryd.func67 (by kernel_rfl) rfl #[.agg #[.int .i64 a0_0, .int .i64 a0_1, .int .i64 a0_2], .int .u64 a1] rfl (by (try simp only [List.map_toArray, List.map_cons, List.map_nil]); first | done | rfl | (simp only [List.length_drop, List.length_take]; rfl)) ?_; (with_reducible refine (flt_format_parts.calls a0_0 a0_1 a0_2 a1 t503 t504 t505 _ A4.out).mono ?_); rintro e w28 ⟨rfl, hb⟩; refine ⟨_, rfl, ?_⟩; have n0_ := Aside0.mk (blk_below (g := gb498) (o := .cells #[.int .i64 a0_0, .int .i64 a0_1, .int .i64 a0_2] 84 (0, 0)) (by (with_reducible repeat (first | refine blk_drewN ?_ _ | refine blk_drew ?_ | refine blk_alloc ?_ _)); refine blk_far ?_ NB498_502.out _; (with_reducible repeat (first | refine blk_drewN ?_ _ | refine blk_drew ?_ | refine blk_alloc ?_ _)); refine blk_far ?_ NB498_502.out _; (with_reducible repeat (first | refine blk_drewN ?_ _ | refine blk_drew ?_ | refine blk_alloc ?_ _)); refine blk_far ?_ NB498_502.out _; (with_reducible repeat (first | refine blk_drewN ?_ _ | refine blk_drew ?_ | refine blk_alloc ?_ _)); exact BK498.out) hb); have n1_ := Aside0.mk (blk_below (g := gb502) (o := .cells #[.int .i64 t499, .int .i64 t500, .int .i64 t501] 84 (0, 0)) (by (with_reducible repeat (first | refine blk_drewN ?_ _ | refine blk_drew ?_ | refine blk_alloc ?_ _)); refine blk_put (cs := #[.int .i64 t499, .int .i64 t500, .int .i64 0]) ?_ 2 _ rfl; (with_reducible repeat (first | refine blk_drewN ?_ _ | refine blk_drew ?_ | refine blk_alloc ?_ _)); refine blk_put (cs := #[.int .i64 t499, .int .i64 0, .int .i64 0]) ?_ 1 _ rfl; (with_reducible repeat (first | refine blk_drewN ?_ _ | refine blk_drew ?_ | refine blk_alloc ?_ _)); refine blk_put (cs := #[.int .i64 0, .int .i64 0, .int .i64 0]) ?_ 0 _ rfl; (with_reducible repeat (first | refine blk_drewN ?_ _ | refine blk_drew ?_ | refine blk_alloc ?_ _)); exact BK502.out) hb); have n2_ := Aside0.mk (below_step (by repeat (first | (with_reducible first | exact HB.out | apply below_alloc | apply pw_below_drewN | apply below_drew1 | refine below_set ?_ GE498.out | refine below_set ?_ GE502.out) | exact HB.out)) hb); clear BK498; clear BK502; clear HB; have BK498 := n0_; have BK502 := n1_; have HB := n2_; clear n0_ n1_ n2_; (try clear hb); (try clear hb2); (try clear hk); (try clear hi); have hcz29_0 : w28.cell? ⟨gb502, 0, none⟩ = some (.int .i64 t499) := (blk_cell BK502.out 0).trans rfl; have hcz29_1 : w28.cell? ⟨gb502, 1, none⟩ = some (.int .i64 t500) := (blk_cell BK502.out 1).trans rfl; have hcz29_2 : w28.cell? ⟨gb502, 2, none⟩ = some (.int .i64 t501) := (blk_cell BK502.out 2).trans rfl; have hfz29_0 := blk_frozen BK502.out 0; have hfz29_1 := blk_frozen BK502.out 1; have hfz29_2 := blk_frozen BK502.out 2; have hcz30_0 : w28.cell? ⟨gb498, 0, none⟩ = some (.int .i64 a0_0) := (blk_cell BK498.out 0).trans rfl; have hcz30_1 : w28.cell? ⟨gb498, 1, none⟩ = some (.int .i64 a0_1) := (blk_cell BK498.out 1).trans rfl; have hcz30_2 : w28.cell? ⟨gb498, 2, none⟩ = some (.int .i64 a0_2) := (blk_cell BK498.out 2).trans rfl; have hfz30_0 := blk_frozen BK498.out 0; have hfz30_1 := blk_frozen BK498.out 1; have hfz30_2 := blk_frozen BK498.out 2) | ((with_reducible refine gate_callee (f := 73) rfl ?_); refine goesL_ (some 32) rfl rfl Tryd.func73 (by kernel_rfl) rfl #[.agg #[.int .i64 a0_0, .int .i64 a0_1, .int .i64 a0_2]] rfl (by (try simp only [List.map_toArray, List.map_cons, List.map_nil]); first | done | rfl | (simp only [List.length_drop, List.length_take]; rfl)) ?_; (with_reducible refine (flt_format_top.calls a0_0 a0_1 a0_2 t506 _ A15.out).mono ?_); rintro e w31 ⟨rfl, hb⟩; refine ⟨_, rfl, ?_⟩; have n0_ := Aside0.mk (blk_below (g := gb498) (o := .cells #[.int .i64 a0_0, .int .i64 a0_1, .int .i64 a0_2] 84 (0, 0)) (by (with_reducible repeat (first | refine blk_drewN ?_ _ | refine blk_drew ?_ | refine blk_alloc ?_ _)); exact BK498.out) hb); have n1_ := Aside0.mk (blk_below (g := gb502) (o := .cells #[.int .i64 t499, .int .i64 t500, .int .i64 t501] 84 (0, 0)) (by (with_reducible repeat (first | refine blk_drewN ?_ _ | refine blk_drew ?_ | refine blk_alloc ?_ _)); exact BK502.out) hb); have n2_ := Aside0.mk (below_step (by repeat (first | (with_reducible first | exact HB.out | apply below_alloc | apply pw_below_drewN | apply below_drew1 | refine below_set ?_ GE498.out | refine below_set ?_ GE502.out) | exact HB.out)) hb); clear BK498; clear BK502; clear HB; have BK498 := n0_; have BK502 := n1_; have HB := n2_; clear n0_ n1_ n2_; (try clear hb); (try clear hb2); (try clear hk); (try clear hi)))
        have n0_ := Aside0.mk (blk_drew BK498.out)
        have n1_ := Aside0.mk (blk_drew BK502.out)
        have n2_ := Aside0.mk (below_drew1 HB.out)
        clear BK498
        clear BK502
        clear HB
        have BK498 := n0_
        have BK502 := n1_
        have HB := n2_
        clear n0_ n1_ n2_
        refine start_ (n := 9) (S := fun w' => w'.cell? ⟨gb502, 0, none⟩ = some (.int .i64 t499) ∧ w'.cell? ⟨gb502, 1, none⟩ = some (.int .i64 t500) ∧ w'.cell? ⟨gb502, 2, none⟩ = some (.int .i64 t501)) (ds := []) #[false, false, false, false, false, false, false, false, false] (by kernel_rfl) rfl rfl ⟨(blk_cell BK502.out 0).trans rfl, (blk_cell BK502.out 1).trans rfl, (blk_cell BK502.out 2).trans rfl⟩ (fun hHeld => ?_); refine with_tabW flt_format_widen.tab7 flt_format_widen.bits7 (fun HT_ HW_ => ?_)
        generalize w31.drew = w32 at BK498 BK502 HB hHeld ⊢
        refine pure_ (i := 1) (N := some 35) (v := ?_) (a' := ?_) #[false, true, false, false, false, false, false, false, false] rfl rfl (any_of HT_.out (by kernel_rfl)) (fun _ _ _ h => h) (Or.inl ⟨by rfl, ?_⟩) ?_ ?_
        rotate_left
        · intro w'
          go_simp
          with_reducible rfl
        rotate_left
        · simp only [Act.put, List.setIfInBounds_toArray, List.set_cons_zero, List.set_cons_succ, i64_w, i32_w]
          rfl
        refine pure_ (i := 4) (N := some 38) (v := ?_) (a' := ?_) #[false, true, false, false, true, false, false, false, false] rfl rfl (any_of HT_.out (by kernel_rfl)) (fun _ _ _ h => h) (Or.inl ⟨by rfl, ?_⟩) ?_ ?_
        rotate_left
        · intro w'
          go_simp
          with_reducible rfl
        rotate_left
        · simp only [Act.put, List.setIfInBounds_toArray, List.set_cons_zero, List.set_cons_succ, i64_w, i32_w]
          rfl
        refine pure_ (i := 5) (N := some 39) (v := ?_) (a' := ?_) #[false, true, false, false, true, true, false, false, false] rfl rfl (any_of HT_.out (by kernel_rfl)) (fun _ _ _ h => h) (Or.inl ⟨by rfl, ?_⟩) ?_ ?_
        rotate_left
        · intro w'
          go_simp
          with_reducible rfl
        rotate_left
        · simp only [Act.put, List.setIfInBounds_toArray, List.set_cons_zero, List.set_cons_succ, i64_w, i32_w]
          rfl
        refine pure_ (i := 6) (N := some 40) (v := ?_) (a' := ?_) #[false, true, false, false, true, true, true, false, false] rfl rfl (any_of HT_.out (by kernel_rfl)) (fun _ _ _ h => h) (Or.inl ⟨by rfl, ?_⟩) ?_ ?_
        rotate_left
        · intro w'
          go_simp
          with_reducible rfl
        rotate_left
        · simp only [Act.put, List.setIfInBounds_toArray, List.set_cons_zero, List.set_cons_succ, i64_w, i32_w]
          rfl
        refine take_ (i := 0) (N := some 34) (v := ?_) (a' := ?_) #[true, true, false, false, true, true, true, false, false] rfl rfl (take_ofW HT_.out HW_.out (by kernel_rfl)) (fun _ _ _ h => h) (Or.inl ⟨by rfl, ?_⟩) hHeld ?_ ?_
        rotate_left
        · rintro w' ⟨s0, s1, s2⟩
          go_simp
          with_reducible rfl
        rotate_left
        · simp only [Act.put, List.setIfInBounds_toArray, List.set_cons_zero, List.set_cons_succ, i64_w, i32_w]
          rfl
        refine take_ (i := 2) (N := some 36) (v := ?_) (a' := ?_) #[true, true, true, false, true, true, true, false, false] rfl rfl (take_ofW HT_.out HW_.out (by kernel_rfl)) (fun _ _ _ h => h) (Or.inl ⟨by rfl, ?_⟩) hHeld ?_ ?_
        rotate_left
        · rintro w' ⟨s0, s1, s2⟩
          go_simp
          with_reducible rfl
        rotate_left
        · simp only [Act.put, List.setIfInBounds_toArray, List.set_cons_zero, List.set_cons_succ, i64_w, i32_w]
          rfl
        refine one_ (i := 3) (N := some 37) #[true, true, true, true, true, true, true, false, false] rfl rfl (one_of HT_.out (by kernel_rfl)) (by decide) (fun K hK => ?_)
        refine goes_ Tryd.func73 (by kernel_rfl) rfl #[.agg #[.int .i64 t499, .int .i64 t500, .int .i64 t501]] (by rfl) rfl rfl (by (try simp only [List.map_toArray, List.map_cons, List.map_nil]); first | done | rfl | (simp only [List.length_drop, List.length_take]; rfl)) ?_
        with_reducible refine (flt_format_top.calls t499 t500 t501 t507 _ A17.out).mono ?_
        rintro e w33 ⟨rfl, hb⟩
        refine ⟨_, rfl, ?_⟩
        have n0_ := Aside0.mk (blk_below (g := gb498) (o := .cells #[.int .i64 a0_0, .int .i64 a0_1, .int .i64 a0_2] 84 (0, 0)) (by (with_reducible repeat (first | refine blk_drewN ?_ _ | refine blk_drew ?_ | refine blk_alloc ?_ _)); exact BK498.out) hb)
        have n1_ := Aside0.mk (blk_below (g := gb502) (o := .cells #[.int .i64 t499, .int .i64 t500, .int .i64 t501] 84 (0, 0)) (by (with_reducible repeat (first | refine blk_drewN ?_ _ | refine blk_drew ?_ | refine blk_alloc ?_ _)); exact BK502.out) hb)
        have n2_ := Aside0.mk (below_step (by repeat (first | (with_reducible first | exact HB.out | apply below_alloc | apply pw_below_drewN | apply below_drew1 | refine below_set ?_ GE498.out | refine below_set ?_ GE502.out) | exact HB.out)) hb)
        clear BK498
        clear BK502
        clear HB
        have BK498 := n0_
        have BK502 := n1_
        have HB := n2_
        clear n0_ n1_ n2_
        (try clear hb)
        (try clear hb2)
        (try clear hk)
        (try clear hi)
        refine hK.out _ _ ⟨(blk_cell BK502.out 0).trans rfl, (blk_cell BK502.out 1).trans rfl, (blk_cell BK502.out 2).trans rfl⟩ (fun hHeld => ?_)
        clear hK K
        refine norm_ (a' := ?_) ?_ ?_
        rotate_left
        · show Act.put _ (some 37) _ = _
          simp only [Act.put, List.setIfInBounds_toArray, List.set_cons_zero, List.set_cons_succ, i64_w, i32_w]
          rfl
        refine one_ (i := 7) (N := some 41) #[true, true, true, true, true, true, true, true, false] rfl rfl (one_of HT_.out (by kernel_rfl)) (by decide) (fun K hK => ?_)
        refine goes_ Tryd.func107 (by kernel_rfl) rfl #[.agg #[.int .i64 t499, .int .i64 t500, .int .i64 t501], .int .u64 t503, .int .i64 t507, .int .u64 ji20] (by rfl) rfl rfl (by (try simp only [List.map_toArray, List.map_cons, List.map_nil]); first | done | (simp only [hji20]; rfl) | rfl | (simp only [List.length_drop, List.length_take]; rfl)) ?_
        with_reducible refine (flt_format_join.calls t499 t500 t501 t503 t507 ji20 t508 _ A21.out).mono ?_
        rintro e w34 ⟨rfl, hb⟩
        refine ⟨_, rfl, ?_⟩
        have n0_ := Aside0.mk (blk_below (g := gb498) (o := .cells #[.int .i64 a0_0, .int .i64 a0_1, .int .i64 a0_2] 84 (0, 0)) (by (with_reducible repeat (first | refine blk_drewN ?_ _ | refine blk_drew ?_ | refine blk_alloc ?_ _)); exact BK498.out) hb)
        have n1_ := Aside0.mk (blk_below (g := gb502) (o := .cells #[.int .i64 t499, .int .i64 t500, .int .i64 t501] 84 (0, 0)) (by (with_reducible repeat (first | refine blk_drewN ?_ _ | refine blk_drew ?_ | refine blk_alloc ?_ _)); exact BK502.out) hb)
        have n2_ := Aside0.mk (below_step (by repeat (first | (with_reducible first | exact HB.out | apply below_alloc | apply pw_below_drewN | apply below_drew1 | refine below_set ?_ GE498.out | refine below_set ?_ GE502.out) | exact HB.out)) hb)
        clear BK498
        clear BK502
        clear HB
        have BK498 := n0_
        have BK502 := n1_
        have HB := n2_
        clear n0_ n1_ n2_
        (try clear hb)
        (try clear hb2)
        (try clear hk)
        (try clear hi)
        refine hK.out _ _ ⟨(blk_cell BK502.out 0).trans rfl, (blk_cell BK502.out 1).trans rfl, (blk_cell BK502.out 2).trans rfl⟩ (fun hHeld => ?_)
        clear hK K
        refine norm_ (a' := ?_) ?_ ?_
        rotate_left
        · show Act.put _ (some 41) _ = _
          simp only [Act.put, List.setIfInBounds_toArray, List.set_cons_zero, List.set_cons_succ, i64_w, i32_w]
          rfl
        refine pure_ (i := 8) (N := some 4) (v := ?_) (a' := ?_) #[true, true, true, true, true, true, true, true, true] rfl rfl (any_of HT_.out (by kernel_rfl)) (fun _ _ _ h => h) (Or.inl ⟨by rfl, ?_⟩) ?_ ?_
        rotate_left
        · intro w'
          go_simp
          with_reducible rfl
        rotate_left
        · simp only [Act.put, List.setIfInBounds_toArray, List.set_cons_zero, List.set_cons_succ, i64_w, i32_w]
          rfl
        refine done_ (done_of HT_.out (by kernel_rfl)) ?_
        try go_wp2
        go_ret
        exact ⟨by first | rfl | (simp [errW_none, errW_some] <;> rfl) | (simp only [← hji18, ← hji20]; first | rfl | (simp [errW_none, errW_some] <;> rfl)) | (simp [*, errW_none, errW_some] <;> rfl), by repeat (first | (with_reducible first | exact HB.out | apply below_alloc | apply pw_below_drewN | apply below_drew1 | refine below_set ?_ GE498.out | refine below_set ?_ GE502.out) | exact HB.out)⟩
      · rw [if_neg c19] at H
        exact absurd H (by simp)
    · rw [if_neg c16] at H
      have c16b0 : (t504 == t506) = false := beq_eq_false_iff_ne.mpr c16
      have c16b1 : (t504 != t506) = true := bne_iff_ne.mpr c16
      by_cases c35 : t504 > 0
      · rw [if_pos c35] at H
        have c35b0 : decide (0 < t504) = true := decide_eq_true c35
        clear c35
        replace H := Option.bind_eq_some_iff.mp H
        obtain ⟨t509, A360, H⟩ := H
        replace H : ((flt_format_bias.f t499 t500 t501).bind fun t510 => (if 0 ≤ (wrap64 (t501 - a0_2)) then ((flt_format_join.f t499 t500 t501 t503 (wrap64 ((wrap64 (t504 - t509)) + t510)) (shl .u64 t505 (wrap64 (t501 - a0_2)))).bind fun t511 => (some t511)) else (none))) = some r := H
        have A36 := Aside0.mk A360
        clear A360
        replace H := Option.bind_eq_some_iff.mp H
        obtain ⟨t510, A370, H⟩ := H
        replace H : (if 0 ≤ (wrap64 (t501 - a0_2)) then ((flt_format_join.f t499 t500 t501 t503 (wrap64 ((wrap64 (t504 - t509)) + t510)) (shl .u64 t505 (wrap64 (t501 - a0_2)))).bind fun t511 => (some t511)) else (none)) = some r := H
        have A37 := Aside0.mk A370
        clear A370
        obtain ⟨ji38, hji38⟩ : ∃ j_ : Int, (wrap64 (t501 - a0_2)) = j_ := ⟨_, rfl⟩
        replace H : (if 0 ≤ (ji38) then ((flt_format_join.f t499 t500 t501 t503 (wrap64 ((wrap64 (t504 - t509)) + t510)) (shl .u64 t505 (ji38))).bind fun t511 => (some t511)) else (none)) = some r := by first | (rw [hji38] at H; exact H) | (simp only [hji38] at H ⊢; exact H)
        (try rw [hji38] at A3)
        (try rw [hji38] at A4)
        (try rw [hji38] at A15)
        (try rw [hji38] at A36)
        (try rw [hji38] at A37)
        have hji38w : (IntKind.i64.wrap (t501 - a0_2)) = ji38 := (i64_w _).trans hji38
        by_cases c39 : 0 ≤ (ji38)
        · rw [if_pos c39] at H
          have c39b0 := eq_true c39
          have c39b1 : decide (0 ≤ (ji38)) = true := decide_eq_true c39
          clear c39
          obtain ⟨ji40, hji40⟩ : ∃ j_ : Int, (shl .u64 t505 (ji38)) = j_ := ⟨_, rfl⟩
          replace H : ((flt_format_join.f t499 t500 t501 t503 (wrap64 ((wrap64 (t504 - t509)) + t510)) (ji40)).bind fun t511 => (some t511)) = some r := by first | (rw [hji40] at H; exact H) | (simp only [hji40] at H ⊢; exact H)
          (try rw [hji40] at A3)
          (try rw [hji40] at A4)
          (try rw [hji40] at A15)
          (try rw [hji40] at A36)
          (try rw [hji40] at A37)
          have hji40_ : (IntKind.u64.wrap (t505 * 2 ^ min (ji38).toNat 64)) = ji40 := hji40
          have hji40z : (ji38) ≤ 64 → (IntKind.u64.wrap (t505 * 2 ^ (ji38).toNat)) = ji40 := shl_small hji40
          replace H := Option.bind_eq_some_iff.mp H
          obtain ⟨t511, A410, H⟩ := H
          replace H : (some t511) = some r := H
          have A41 := Aside0.mk A410
          clear A410
          obtain rfl := Option.some.inj H
          go_enter Tryd.func62, Tryd.ntmps62
          try go_wp2_with (first | ((with_reducible refine gate_dst (N := 2) rfl ?_); refine box_event ?hg (N := 2) ?hd (cs := #[.int .i64 a0_0, .int .i64 a0_1, .int .i64 a0_2]) (t := 84) ?hr ?_; (case hd => rfl); (case hg => rfl); (case hr => first | (go_simp; done) | (go_simp; rfl)); intro gb498 hg w42 hbox hb; have n0_ := Aside0.mk (below_step (by repeat (first | (with_reducible first | exact HB.out | apply below_alloc | apply pw_below_drewN | apply below_drew1) | exact HB.out)) hb); have n1_ := Aside0.mk (hbox); have n2_ := Aside0.mk ((by rw [hg]; exact (below_size (by repeat (first | (with_reducible first | exact HB.out | apply below_alloc | apply pw_below_drewN | apply below_drew1) | exact HB.out))) : w.heap.size ≤ gb498)); have n3_ := Aside0.mk ((by rw [hg]; exact (below_size (by repeat (first | (with_reducible first | exact HB.out | apply below_alloc | apply pw_below_drewN | apply below_drew1) | exact HB.out))) : w.heap.size ≤ gb498)); clear HB; have HB := n0_; have BK498 := n1_; have GW498 := n2_; have GE498 := n3_; clear n0_ n1_ n2_ n3_; clear hb hbox hg) | ((with_reducible refine gate_callee (f := 65) rfl ?_); refine goesL_ (some 11) rfl rfl Tryd.func65 (by kernel_rfl) rfl #[] rfl (by (try simp only [List.map_toArray, List.map_cons, List.map_nil]); first | done | rfl | (simp only [List.length_drop, List.length_take]; rfl)) ?_; (with_reducible refine (flt_wide.calls  t499 t500 t501 _ A3.out).mono ?_); rintro e w43 ⟨rfl, hb⟩; refine ⟨_, rfl, ?_⟩; have n0_ := Aside0.mk (blk_below (g := gb498) (o := .cells #[.int .i64 a0_0, .int .i64 a0_1, .int .i64 a0_2] 84 (0, 0)) (by (with_reducible repeat (first | refine blk_drewN ?_ _ | refine blk_drew ?_ | refine blk_alloc ?_ _)); exact BK498.out) hb); have n1_ := Aside0.mk (below_step (by repeat (first | (with_reducible first | exact HB.out | apply below_alloc | apply pw_below_drewN | apply below_drew1 | refine below_set ?_ GE498.out) | exact HB.out)) hb); clear BK498; clear HB; have BK498 := n0_; have HB := n1_; clear n0_ n1_; (try clear hb); (try clear hb2); (try clear hk); (try clear hi)) | ((with_reducible refine gate_dst (N := 5) rfl ?_); refine box_event ?hg (N := 5) ?hd (cs := #[.int .i64 0, .int .i64 0, .int .i64 0]) (t := 84) ?hr ?_; (case hd => rfl); (case hg => rfl); (case hr => first | (go_simp; done) | (go_simp; rfl)); intro gb502 hg w44 hbox hb; have n0_ := Aside0.mk (blk_below (g := gb498) (o := .cells #[.int .i64 a0_0, .int .i64 a0_1, .int .i64 a0_2] 84 (0, 0)) (by (with_reducible repeat (first | refine blk_drewN ?_ _ | refine blk_drew ?_ | refine blk_alloc ?_ _)); exact BK498.out) hb); have n1_ := Aside0.mk (below_step (by repeat (first | (with_reducible first | exact HB.out | apply below_alloc | apply pw_below_drewN | apply below_drew1 | refine below_set ?_ GE498.out) | exact HB.out)) hb); have n2_ := Aside0.mk (hbox); have n3_ := Aside0.mk ((by rw [hg]; exact (below_size (by repeat (first | (with_reducible first | exact HB.out | apply below_alloc | apply pw_below_drewN | apply below_drew1 | refine below_set ?_ GE498.out) | exact HB.out))) : w.heap.size ≤ gb502)); have n4_ := Aside0.mk ((by rw [hg]; exact (below_size (by repeat (first | (with_reducible first | exact HB.out | apply below_alloc | apply pw_below_drewN | apply below_drew1 | refine below_set ?_ GE498.out) | exact HB.out))) : w.heap.size ≤ gb502)); have n5_ := Aside0.mk ((by rw [hg]; exact Nat.ne_of_lt (blk_lt (g := gb498) (o := .cells #[.int .i64 a0_0, .int .i64 a0_1, .int .i64 a0_2] 84 (0, 0)) (by (with_reducible repeat (first | refine blk_drewN ?_ _ | refine blk_drew ?_ | refine blk_alloc ?_ _)); exact BK498.out)) : gb498 ≠ gb502)); have n6_ := Aside0.mk ((by rw [hg]; exact Nat.ne_of_gt (blk_lt (g := gb498) (o := .cells #[.int .i64 a0_0, .int .i64 a0_1, .int .i64 a0_2] 84 (0, 0)) (by (with_reducible repeat (first | refine blk_drewN ?_ _ | refine blk_drew ?_ | refine blk_alloc ?_ _)); exact BK498.out)) : gb502 ≠ gb498)); clear BK498; clear HB; have BK498 := n0_; have HB := n1_; have BK502 := n2_; have GW502 := n3_; have GE502 := n4_; have NB498_502 := n5_; have NB502_498 := n6_; clear n0_ n1_ n2_ n3_ n4_ n5_ n6_; clear hb hbox hg; have hnb45 := NB502_498.out; have hnc45 := NB498_502.out; have hcz46_0 : w44.cell? ⟨gb502, 0, none⟩ = some (.int .i64 0) := (blk_cell BK502.out 0).trans rfl; have hcz46_1 : w44.cell? ⟨gb502, 1, none⟩ = some (.int .i64 0) := (blk_cell BK502.out 1).trans rfl; have hcz46_2 : w44.cell? ⟨gb502, 2, none⟩ = some (.int .i64 0) := (blk_cell BK502.out 2).trans rfl; have hfz46_0 := blk_frozen BK502.out 0; have hfz46_1 := blk_frozen BK502.out 1; have hfz46_2 := blk_frozen BK502.out 2; have hcz47_0 : w44.cell? ⟨gb498, 0, none⟩ = some (.int .i64 a0_0) := (blk_cell BK498.out 0).trans rfl; have hcz47_1 : w44.cell? ⟨gb498, 1, none⟩ = some (.int .i64 a0_1) := (blk_cell BK498.out 1).trans rfl; have hcz47_2 : w44.cell? ⟨gb498, 2, none⟩ = some (.int .i64 a0_2) := (blk_cell BK498.out 2).trans rfl; have hfz47_0 := blk_frozen BK498.out 0; have hfz47_1 := blk_frozen BK498.out 1; have hfz47_2 := blk_frozen BK498.out 2) | ((with_reducible refine gate_callee (f := 67) rfl ?_); refine goesL_ (some 15) rfl rfl Tryd.func67 (by kernel_rfl) rfl #[.agg #[.int .i64 a0_0, .int .i64 a0_1, .int .i64 a0_2], .int .u64 a1] rfl (by (try simp only [List.map_toArray, List.map_cons, List.map_nil]); first | done | rfl | (simp only [List.length_drop, List.length_take]; rfl)) ?_; (with_reducible refine (flt_format_parts.calls a0_0 a0_1 a0_2 a1 t503 t504 t505 _ A4.out).mono ?_); rintro e w48 ⟨rfl, hb⟩; refine ⟨_, rfl, ?_⟩; have n0_ := Aside0.mk (blk_below (g := gb498) (o := .cells #[.int .i64 a0_0, .int .i64 a0_1, .int .i64 a0_2] 84 (0, 0)) (by (with_reducible repeat (first | refine blk_drewN ?_ _ | refine blk_drew ?_ | refine blk_alloc ?_ _)); refine blk_far ?_ NB498_502.out _; (with_reducible repeat (first | refine blk_drewN ?_ _ | refine blk_drew ?_ | refine blk_alloc ?_ _)); refine blk_far ?_ NB498_502.out _; (with_reducible repeat (first | refine blk_drewN ?_ _ | refine blk_drew ?_ | refine blk_alloc ?_ _)); refine blk_far ?_ NB498_502.out _; (with_reducible repeat (first | refine blk_drewN ?_ _ | refine blk_drew ?_ | refine blk_alloc ?_ _)); exact BK498.out) hb); have n1_ := Aside0.mk (blk_below (g := gb502) (o := .cells #[.int .i64 t499, .int .i64 t500, .int .i64 t501] 84 (0, 0)) (by (with_reducible repeat (first | refine blk_drewN ?_ _ | refine blk_drew ?_ | refine blk_alloc ?_ _)); refine blk_put (cs := #[.int .i64 t499, .int .i64 t500, .int .i64 0]) ?_ 2 _ rfl; (with_reducible repeat (first | refine blk_drewN ?_ _ | refine blk_drew ?_ | refine blk_alloc ?_ _)); refine blk_put (cs := #[.int .i64 t499, .int .i64 0, .int .i64 0]) ?_ 1 _ rfl; (with_reducible repeat (first | refine blk_drewN ?_ _ | refine blk_drew ?_ | refine blk_alloc ?_ _)); refine blk_put (cs := #[.int .i64 0, .int .i64 0, .int .i64 0]) ?_ 0 _ rfl; (with_reducible repeat (first | refine blk_drewN ?_ _ | refine blk_drew ?_ | refine blk_alloc ?_ _)); exact BK502.out) hb); have n2_ := Aside0.mk (below_step (by repeat (first | (with_reducible first | exact HB.out | apply below_alloc | apply pw_below_drewN | apply below_drew1 | refine below_set ?_ GE498.out | refine below_set ?_ GE502.out) | exact HB.out)) hb); clear BK498; clear BK502; clear HB; have BK498 := n0_; have BK502 := n1_; have HB := n2_; clear n0_ n1_ n2_; (try clear hb); (try clear hb2); (try clear hk); (try clear hi); have hcz49_0 : w48.cell? ⟨gb502, 0, none⟩ = some (.int .i64 t499) := (blk_cell BK502.out 0).trans rfl; have hcz49_1 : w48.cell? ⟨gb502, 1, none⟩ = some (.int .i64 t500) := (blk_cell BK502.out 1).trans rfl; have hcz49_2 : w48.cell? ⟨gb502, 2, none⟩ = some (.int .i64 t501) := (blk_cell BK502.out 2).trans rfl; have hfz49_0 := blk_frozen BK502.out 0; have hfz49_1 := blk_frozen BK502.out 1; have hfz49_2 := blk_frozen BK502.out 2; have hcz50_0 : w48.cell? ⟨gb498, 0, none⟩ = some (.int .i64 a0_0) := (blk_cell BK498.out 0).trans rfl; have hcz50_1 : w48.cell? ⟨gb498, 1, none⟩ = some (.int .i64 a0_1) := (blk_cell BK498.out 1).trans rfl; have hcz50_2 : w48.cell? ⟨gb498, 2, none⟩ = some (.int .i64 a0_2) := (blk_cell BK498.out 2).trans rfl; have hfz50_0 := blk_frozen BK498.out 0; have hfz50_1 := blk_frozen BK498.out 1; have hfz50_2 := blk_frozen BK498.out 2) | ((with_reducible refine gate_callee (f := 73) rfl ?_); refine goesL_ (some 32) rfl rfl Tryd.func73 (by kernel_rfl) rfl #[.agg #[.int .i64 a0_0, .int .i64 a0_1, .int .i64 a0_2]] rfl (by (try simp only [List.map_toArray, List.map_cons, List.map_nil]); first | done | rfl | (simp only [List.length_drop, List.length_take]; rfl)) ?_; (with_reducible refine (flt_format_top.calls a0_0 a0_1 a0_2 t506 _ A15.out).mono ?_); rintro e w51 ⟨rfl, hb⟩; refine ⟨_, rfl, ?_⟩; have n0_ := Aside0.mk (blk_below (g := gb498) (o := .cells #[.int .i64 a0_0, .int .i64 a0_1, .int .i64 a0_2] 84 (0, 0)) (by (with_reducible repeat (first | refine blk_drewN ?_ _ | refine blk_drew ?_ | refine blk_alloc ?_ _)); exact BK498.out) hb); have n1_ := Aside0.mk (blk_below (g := gb502) (o := .cells #[.int .i64 t499, .int .i64 t500, .int .i64 t501] 84 (0, 0)) (by (with_reducible repeat (first | refine blk_drewN ?_ _ | refine blk_drew ?_ | refine blk_alloc ?_ _)); exact BK502.out) hb); have n2_ := Aside0.mk (below_step (by repeat (first | (with_reducible first | exact HB.out | apply below_alloc | apply pw_below_drewN | apply below_drew1 | refine below_set ?_ GE498.out | refine below_set ?_ GE502.out) | exact HB.out)) hb); clear BK498; clear BK502; clear HB; have BK498 := n0_; have BK502 := n1_; have HB := n2_; clear n0_ n1_ n2_; (try clear hb); (try clear hb2); (try clear hk); (try clear hi)))
          have n0_ := Aside0.mk (blk_drew BK498.out)
          have n1_ := Aside0.mk (blk_drew BK502.out)
          have n2_ := Aside0.mk (below_drew1 HB.out)
          clear BK498
          clear BK502
          clear HB
          have BK498 := n0_
          have BK502 := n1_
          have HB := n2_
          clear n0_ n1_ n2_
          refine start_ (n := 14) (S := fun w' => w'.cell? ⟨gb502, 0, none⟩ = some (.int .i64 t499) ∧ w'.cell? ⟨gb502, 1, none⟩ = some (.int .i64 t500) ∧ w'.cell? ⟨gb502, 2, none⟩ = some (.int .i64 t501) ∧ w'.cell? ⟨gb498, 0, none⟩ = some (.int .i64 a0_0) ∧ w'.cell? ⟨gb498, 1, none⟩ = some (.int .i64 a0_1) ∧ w'.cell? ⟨gb498, 2, none⟩ = some (.int .i64 a0_2)) (ds := []) #[false, false, false, false, false, false, false, false, false, false, false, false, false, false] (by kernel_rfl) rfl rfl ⟨(blk_cell BK502.out 0).trans rfl, (blk_cell BK502.out 1).trans rfl, (blk_cell BK502.out 2).trans rfl, (blk_cell BK498.out 0).trans rfl, (blk_cell BK498.out 1).trans rfl, (blk_cell BK498.out 2).trans rfl⟩ (fun hHeld => ?_); refine with_tabW flt_format_widen.tab9 flt_format_widen.bits9 (fun HT_ HW_ => ?_)
          generalize w51.drew = w52 at BK498 BK502 HB hHeld ⊢
          refine pure_ (i := 1) (N := some 46) (v := ?_) (a' := ?_) #[false, true, false, false, false, false, false, false, false, false, false, false, false, false] rfl rfl (any_of HT_.out (by kernel_rfl)) (fun _ _ _ h => h) (Or.inl ⟨by rfl, ?_⟩) ?_ ?_
          rotate_left
          · intro w'
            go_simp
            with_reducible rfl
          rotate_left
          · simp only [Act.put, List.setIfInBounds_toArray, List.set_cons_zero, List.set_cons_succ, i64_w, i32_w]
            rfl
          refine pure_ (i := 2) (N := some 47) (v := ?_) (a' := ?_) #[false, true, true, false, false, false, false, false, false, false, false, false, false, false] rfl rfl (any_of HT_.out (by kernel_rfl)) (fun _ _ _ h => h) (Or.inl ⟨by rfl, ?_⟩) ?_ ?_
          rotate_left
          · intro w'
            go_simp
            with_reducible rfl
          rotate_left
          · simp only [Act.put, List.setIfInBounds_toArray, List.set_cons_zero, List.set_cons_succ, i64_w, i32_w]
            rfl
          refine pure_ (i := 9) (N := some 54) (v := ?_) (a' := ?_) #[false, true, true, false, false, false, false, false, false, true, false, false, false, false] rfl rfl (any_of HT_.out (by kernel_rfl)) (fun _ _ _ h => h) (Or.inl ⟨by rfl, ?_⟩) ?_ ?_
          rotate_left
          · intro w'
            go_simp
            with_reducible rfl
          rotate_left
          · simp only [Act.put, List.setIfInBounds_toArray, List.set_cons_zero, List.set_cons_succ, i64_w, i32_w]
            rfl
          refine pure_ (i := 10) (N := some 55) (v := ?_) (a' := ?_) #[false, true, true, false, false, false, false, false, false, true, true, false, false, false] rfl rfl (any_of HT_.out (by kernel_rfl)) (fun _ _ _ h => h) (Or.inl ⟨by rfl, ?_⟩) ?_ ?_
          rotate_left
          · intro w'
            go_simp
            with_reducible rfl
          rotate_left
          · simp only [Act.put, List.setIfInBounds_toArray, List.set_cons_zero, List.set_cons_succ, i64_w, i32_w]
            rfl
          refine pure_ (i := 11) (N := some 56) (v := ?_) (a' := ?_) #[false, true, true, false, false, false, false, false, false, true, true, true, false, false] rfl rfl (any_of HT_.out (by kernel_rfl)) (fun _ _ _ h => h) (Or.inl ⟨by rfl, ?_⟩) ?_ ?_
          rotate_left
          · intro w'
            go_simp
            with_reducible rfl
          rotate_left
          · simp only [Act.put, List.setIfInBounds_toArray, List.set_cons_zero, List.set_cons_succ, i64_w, i32_w]
            rfl
          refine take_ (i := 0) (N := some 45) (v := ?_) (a' := ?_) #[true, true, true, false, false, false, false, false, false, true, true, true, false, false] rfl rfl (take_ofW HT_.out HW_.out (by kernel_rfl)) (fun _ _ _ h => h) (Or.inl ⟨by rfl, ?_⟩) hHeld ?_ ?_
          rotate_left
          · rintro w' ⟨s0, s1, s2, s3, s4, s5⟩
            go_simp
            with_reducible rfl
          rotate_left
          · simp only [Act.put, List.setIfInBounds_toArray, List.set_cons_zero, List.set_cons_succ, i64_w, i32_w]
            rfl
          refine take_ (i := 3) (N := some 48) (v := ?_) (a' := ?_) #[true, true, true, true, false, false, false, false, false, true, true, true, false, false] rfl rfl (take_ofW HT_.out HW_.out (by kernel_rfl)) (fun _ _ _ h => h) (Or.inl ⟨by rfl, ?_⟩) hHeld ?_ ?_
          rotate_left
          · rintro w' ⟨s0, s1, s2, s3, s4, s5⟩
            go_simp
            with_reducible rfl
          rotate_left
          · simp only [Act.put, List.setIfInBounds_toArray, List.set_cons_zero, List.set_cons_succ, i64_w, i32_w]
            rfl
          refine take_ (i := 6) (N := some 51) (v := ?_) (a' := ?_) #[true, true, true, true, false, false, true, false, false, true, true, true, false, false] rfl rfl (take_ofW HT_.out HW_.out (by kernel_rfl)) (fun _ _ _ h => h) (Or.inl ⟨by rfl, ?_⟩) hHeld ?_ ?_
          rotate_left
          · rintro w' ⟨s0, s1, s2, s3, s4, s5⟩
            go_simp
            with_reducible rfl
          rotate_left
          · simp only [Act.put, List.setIfInBounds_toArray, List.set_cons_zero, List.set_cons_succ, i64_w, i32_w]
            rfl
          refine one_ (i := 4) (N := some 49) #[true, true, true, true, true, false, true, false, false, true, true, true, false, false] rfl rfl (one_of HT_.out (by kernel_rfl)) (by decide) (fun K hK => ?_)
          refine goes_ Tryd.func68 (by kernel_rfl) rfl #[.agg #[.int .i64 a0_0, .int .i64 a0_1, .int .i64 a0_2]] (by rfl) rfl rfl (by (try simp only [List.map_toArray, List.map_cons, List.map_nil]); first | done | rfl | (simp only [List.length_drop, List.length_take]; rfl)) ?_
          with_reducible refine (flt_format_bias.calls a0_0 a0_1 a0_2 t509 _ A36.out).mono ?_
          rintro e w53 ⟨rfl, hb⟩
          refine ⟨_, rfl, ?_⟩
          have n0_ := Aside0.mk (blk_below (g := gb498) (o := .cells #[.int .i64 a0_0, .int .i64 a0_1, .int .i64 a0_2] 84 (0, 0)) (by (with_reducible repeat (first | refine blk_drewN ?_ _ | refine blk_drew ?_ | refine blk_alloc ?_ _)); exact BK498.out) hb)
          have n1_ := Aside0.mk (blk_below (g := gb502) (o := .cells #[.int .i64 t499, .int .i64 t500, .int .i64 t501] 84 (0, 0)) (by (with_reducible repeat (first | refine blk_drewN ?_ _ | refine blk_drew ?_ | refine blk_alloc ?_ _)); exact BK502.out) hb)
          have n2_ := Aside0.mk (below_step (by repeat (first | (with_reducible first | exact HB.out | apply below_alloc | apply pw_below_drewN | apply below_drew1 | refine below_set ?_ GE498.out | refine below_set ?_ GE502.out) | exact HB.out)) hb)
          clear BK498
          clear BK502
          clear HB
          have BK498 := n0_
          have BK502 := n1_
          have HB := n2_
          clear n0_ n1_ n2_
          (try clear hb)
          (try clear hb2)
          (try clear hk)
          (try clear hi)
          refine hK.out _ _ ⟨(blk_cell BK502.out 0).trans rfl, (blk_cell BK502.out 1).trans rfl, (blk_cell BK502.out 2).trans rfl, (blk_cell BK498.out 0).trans rfl, (blk_cell BK498.out 1).trans rfl, (blk_cell BK498.out 2).trans rfl⟩ (fun hHeld => ?_)
          clear hK K
          refine norm_ (a' := ?_) ?_ ?_
          rotate_left
          · show Act.put _ (some 49) _ = _
            simp only [Act.put, List.setIfInBounds_toArray, List.set_cons_zero, List.set_cons_succ, i64_w, i32_w]
            rfl
          refine pure_ (i := 5) (N := some 50) (v := ?_) (a' := ?_) #[true, true, true, true, true, true, true, false, false, true, true, true, false, false] rfl rfl (any_of HT_.out (by kernel_rfl)) (fun _ _ _ h => h) (Or.inl ⟨by rfl, ?_⟩) ?_ ?_
          rotate_left
          · intro w'
            go_simp
            with_reducible rfl
          rotate_left
          · simp only [Act.put, List.setIfInBounds_toArray, List.set_cons_zero, List.set_cons_succ, i64_w, i32_w]
            rfl
          refine one_ (i := 7) (N := some 52) #[true, true, true, true, true, true, true, true, false, true, true, true, false, false] rfl rfl (one_of HT_.out (by kernel_rfl)) (by decide) (fun K hK => ?_)
          refine goes_ Tryd.func68 (by kernel_rfl) rfl #[.agg #[.int .i64 t499, .int .i64 t500, .int .i64 t501]] (by rfl) rfl rfl (by (try simp only [List.map_toArray, List.map_cons, List.map_nil]); first | done | rfl | (simp only [List.length_drop, List.length_take]; rfl)) ?_
          with_reducible refine (flt_format_bias.calls t499 t500 t501 t510 _ A37.out).mono ?_
          rintro e w54 ⟨rfl, hb⟩
          refine ⟨_, rfl, ?_⟩
          have n0_ := Aside0.mk (blk_below (g := gb498) (o := .cells #[.int .i64 a0_0, .int .i64 a0_1, .int .i64 a0_2] 84 (0, 0)) (by (with_reducible repeat (first | refine blk_drewN ?_ _ | refine blk_drew ?_ | refine blk_alloc ?_ _)); exact BK498.out) hb)
          have n1_ := Aside0.mk (blk_below (g := gb502) (o := .cells #[.int .i64 t499, .int .i64 t500, .int .i64 t501] 84 (0, 0)) (by (with_reducible repeat (first | refine blk_drewN ?_ _ | refine blk_drew ?_ | refine blk_alloc ?_ _)); exact BK502.out) hb)
          have n2_ := Aside0.mk (below_step (by repeat (first | (with_reducible first | exact HB.out | apply below_alloc | apply pw_below_drewN | apply below_drew1 | refine below_set ?_ GE498.out | refine below_set ?_ GE502.out) | exact HB.out)) hb)
          clear BK498
          clear BK502
          clear HB
          have BK498 := n0_
          have BK502 := n1_
          have HB := n2_
          clear n0_ n1_ n2_
          (try clear hb)
          (try clear hb2)
          (try clear hk)
          (try clear hi)
          refine hK.out _ _ ⟨(blk_cell BK502.out 0).trans rfl, (blk_cell BK502.out 1).trans rfl, (blk_cell BK502.out 2).trans rfl, (blk_cell BK498.out 0).trans rfl, (blk_cell BK498.out 1).trans rfl, (blk_cell BK498.out 2).trans rfl⟩ (fun hHeld => ?_)
          clear hK K
          refine norm_ (a' := ?_) ?_ ?_
          rotate_left
          · show Act.put _ (some 52) _ = _
            simp only [Act.put, List.setIfInBounds_toArray, List.set_cons_zero, List.set_cons_succ, i64_w, i32_w]
            rfl
          refine pure_ (i := 8) (N := some 53) (v := ?_) (a' := ?_) #[true, true, true, true, true, true, true, true, true, true, true, true, false, false] rfl rfl (any_of HT_.out (by kernel_rfl)) (fun _ _ _ h => h) (Or.inl ⟨by rfl, ?_⟩) ?_ ?_
          rotate_left
          · intro w'
            go_simp
            with_reducible rfl
          rotate_left
          · simp only [Act.put, List.setIfInBounds_toArray, List.set_cons_zero, List.set_cons_succ, i64_w, i32_w]
            rfl
          refine one_ (i := 12) (N := some 57) #[true, true, true, true, true, true, true, true, true, true, true, true, true, false] rfl rfl (one_of HT_.out (by kernel_rfl)) (by decide) (fun K hK => ?_)
          refine goes_ Tryd.func107 (by kernel_rfl) rfl #[.agg #[.int .i64 t499, .int .i64 t500, .int .i64 t501], .int .u64 t503, .int .i64 (wrap64 ((wrap64 (t504 - t509)) + t510)), .int .u64 ji40] (by rfl) rfl rfl (by (try simp only [List.map_toArray, List.map_cons, List.map_nil]); first | done | (simp only [hji40]; rfl) | rfl | (simp only [List.length_drop, List.length_take]; rfl)) ?_
          with_reducible refine (flt_format_join.calls t499 t500 t501 t503 (wrap64 ((wrap64 (t504 - t509)) + t510)) ji40 t511 _ A41.out).mono ?_
          rintro e w55 ⟨rfl, hb⟩
          refine ⟨_, rfl, ?_⟩
          have n0_ := Aside0.mk (blk_below (g := gb498) (o := .cells #[.int .i64 a0_0, .int .i64 a0_1, .int .i64 a0_2] 84 (0, 0)) (by (with_reducible repeat (first | refine blk_drewN ?_ _ | refine blk_drew ?_ | refine blk_alloc ?_ _)); exact BK498.out) hb)
          have n1_ := Aside0.mk (blk_below (g := gb502) (o := .cells #[.int .i64 t499, .int .i64 t500, .int .i64 t501] 84 (0, 0)) (by (with_reducible repeat (first | refine blk_drewN ?_ _ | refine blk_drew ?_ | refine blk_alloc ?_ _)); exact BK502.out) hb)
          have n2_ := Aside0.mk (below_step (by repeat (first | (with_reducible first | exact HB.out | apply below_alloc | apply pw_below_drewN | apply below_drew1 | refine below_set ?_ GE498.out | refine below_set ?_ GE502.out) | exact HB.out)) hb)
          clear BK498
          clear BK502
          clear HB
          have BK498 := n0_
          have BK502 := n1_
          have HB := n2_
          clear n0_ n1_ n2_
          (try clear hb)
          (try clear hb2)
          (try clear hk)
          (try clear hi)
          refine hK.out _ _ ⟨(blk_cell BK502.out 0).trans rfl, (blk_cell BK502.out 1).trans rfl, (blk_cell BK502.out 2).trans rfl, (blk_cell BK498.out 0).trans rfl, (blk_cell BK498.out 1).trans rfl, (blk_cell BK498.out 2).trans rfl⟩ (fun hHeld => ?_)
          clear hK K
          refine norm_ (a' := ?_) ?_ ?_
          rotate_left
          · show Act.put _ (some 57) _ = _
            simp only [Act.put, List.setIfInBounds_toArray, List.set_cons_zero, List.set_cons_succ, i64_w, i32_w]
            rfl
          refine pure_ (i := 13) (N := some 4) (v := ?_) (a' := ?_) #[true, true, true, true, true, true, true, true, true, true, true, true, true, true] rfl rfl (any_of HT_.out (by kernel_rfl)) (fun _ _ _ h => h) (Or.inl ⟨by rfl, ?_⟩) ?_ ?_
          rotate_left
          · intro w'
            go_simp
            with_reducible rfl
          rotate_left
          · simp only [Act.put, List.setIfInBounds_toArray, List.set_cons_zero, List.set_cons_succ, i64_w, i32_w]
            rfl
          refine done_ (done_of HT_.out (by kernel_rfl)) ?_
          try go_wp2
          go_ret
          exact ⟨by first | rfl | (simp [errW_none, errW_some] <;> rfl) | (simp only [← hji38, ← hji40]; first | rfl | (simp [errW_none, errW_some] <;> rfl)) | (simp [*, errW_none, errW_some] <;> rfl), by repeat (first | (with_reducible first | exact HB.out | apply below_alloc | apply pw_below_drewN | apply below_drew1 | refine below_set ?_ GE498.out | refine below_set ?_ GE502.out) | exact HB.out)⟩
        · rw [if_neg c39] at H
          exact absurd H (by simp)
      · rw [if_neg c35] at H
        have c35b0 : decide (0 < t504) = false := decide_eq_false c35
        clear c35
        by_cases c56 : t505 = 0
        · rw [if_pos c56] at H
          have c56b0 : (t505 == 0) = true := beq_iff_eq.mpr c56
          have c56b1 : (t505 != 0) = false := bne_eq_false_iff_eq.mpr c56
          clear c56
          replace H := Option.bind_eq_some_iff.mp H
          obtain ⟨t512, A570, H⟩ := H
          replace H : (some t512) = some r := H
          have A57 := Aside0.mk A570
          clear A570
          obtain rfl := Option.some.inj H
          go_enter Tryd.func62, Tryd.ntmps62
          go_wp2_with (first | ((with_reducible refine gate_dst (N := 2) rfl ?_); refine box_event ?hg (N := 2) ?hd (cs := #[.int .i64 a0_0, .int .i64 a0_1, .int .i64 a0_2]) (t := 84) ?hr ?_; (case hd => rfl); (case hg => rfl); (case hr => first | (go_simp; done) | (go_simp; rfl)); intro gb498 hg w58 hbox hb; have n0_ := Aside0.mk (below_step (by repeat (first | (with_reducible first | exact HB.out | apply below_alloc | apply pw_below_drewN | apply below_drew1) | exact HB.out)) hb); have n1_ := Aside0.mk (hbox); have n2_ := Aside0.mk ((by rw [hg]; exact (below_size (by repeat (first | (with_reducible first | exact HB.out | apply below_alloc | apply pw_below_drewN | apply below_drew1) | exact HB.out))) : w.heap.size ≤ gb498)); have n3_ := Aside0.mk ((by rw [hg]; exact (below_size (by repeat (first | (with_reducible first | exact HB.out | apply below_alloc | apply pw_below_drewN | apply below_drew1) | exact HB.out))) : w.heap.size ≤ gb498)); clear HB; have HB := n0_; have BK498 := n1_; have GW498 := n2_; have GE498 := n3_; clear n0_ n1_ n2_ n3_; clear hb hbox hg) | ((with_reducible refine gate_callee (f := 65) rfl ?_); refine goesL_ (some 11) rfl rfl Tryd.func65 (by kernel_rfl) rfl #[] rfl (by (try simp only [List.map_toArray, List.map_cons, List.map_nil]); first | done | rfl | (simp only [List.length_drop, List.length_take]; rfl)) ?_; (with_reducible refine (flt_wide.calls  t499 t500 t501 _ A3.out).mono ?_); rintro e w59 ⟨rfl, hb⟩; refine ⟨_, rfl, ?_⟩; have n0_ := Aside0.mk (blk_below (g := gb498) (o := .cells #[.int .i64 a0_0, .int .i64 a0_1, .int .i64 a0_2] 84 (0, 0)) (by (with_reducible repeat (first | refine blk_drewN ?_ _ | refine blk_drew ?_ | refine blk_alloc ?_ _)); exact BK498.out) hb); have n1_ := Aside0.mk (below_step (by repeat (first | (with_reducible first | exact HB.out | apply below_alloc | apply pw_below_drewN | apply below_drew1 | refine below_set ?_ GE498.out) | exact HB.out)) hb); clear BK498; clear HB; have BK498 := n0_; have HB := n1_; clear n0_ n1_; (try clear hb); (try clear hb2); (try clear hk); (try clear hi)) | ((with_reducible refine gate_dst (N := 5) rfl ?_); refine box_event ?hg (N := 5) ?hd (cs := #[.int .i64 0, .int .i64 0, .int .i64 0]) (t := 84) ?hr ?_; (case hd => rfl); (case hg => rfl); (case hr => first | (go_simp; done) | (go_simp; rfl)); intro gb502 hg w60 hbox hb; have n0_ := Aside0.mk (blk_below (g := gb498) (o := .cells #[.int .i64 a0_0, .int .i64 a0_1, .int .i64 a0_2] 84 (0, 0)) (by (with_reducible repeat (first | refine blk_drewN ?_ _ | refine blk_drew ?_ | refine blk_alloc ?_ _)); exact BK498.out) hb); have n1_ := Aside0.mk (below_step (by repeat (first | (with_reducible first | exact HB.out | apply below_alloc | apply pw_below_drewN | apply below_drew1 | refine below_set ?_ GE498.out) | exact HB.out)) hb); have n2_ := Aside0.mk (hbox); have n3_ := Aside0.mk ((by rw [hg]; exact (below_size (by repeat (first | (with_reducible first | exact HB.out | apply below_alloc | apply pw_below_drewN | apply below_drew1 | refine below_set ?_ GE498.out) | exact HB.out))) : w.heap.size ≤ gb502)); have n4_ := Aside0.mk ((by rw [hg]; exact (below_size (by repeat (first | (with_reducible first | exact HB.out | apply below_alloc | apply pw_below_drewN | apply below_drew1 | refine below_set ?_ GE498.out) | exact HB.out))) : w.heap.size ≤ gb502)); have n5_ := Aside0.mk ((by rw [hg]; exact Nat.ne_of_lt (blk_lt (g := gb498) (o := .cells #[.int .i64 a0_0, .int .i64 a0_1, .int .i64 a0_2] 84 (0, 0)) (by (with_reducible repeat (first | refine blk_drewN ?_ _ | refine blk_drew ?_ | refine blk_alloc ?_ _)); exact BK498.out)) : gb498 ≠ gb502)); have n6_ := Aside0.mk ((by rw [hg]; exact Nat.ne_of_gt (blk_lt (g := gb498) (o := .cells #[.int .i64 a0_0, .int .i64 a0_1, .int .i64 a0_2] 84 (0, 0)) (by (with_reducible repeat (first | refine blk_drewN ?_ _ | refine blk_drew ?_ | refine blk_alloc ?_ _)); exact BK498.out)) : gb502 ≠ gb498)); clear BK498; clear HB; have BK498 := n0_; have HB := n1_; have BK502 := n2_; have GW502 := n3_; have GE502 := n4_; have NB498_502 := n5_; have NB502_498 := n6_; clear n0_ n1_ n2_ n3_ n4_ n5_ n6_; clear hb hbox hg; have hnb61 := NB502_498.out; have hnc61 := NB498_502.out; have hcz62_0 : w60.cell? ⟨gb502, 0, none⟩ = some (.int .i64 0) := (blk_cell BK502.out 0).trans rfl; have hcz62_1 : w60.cell? ⟨gb502, 1, none⟩ = some (.int .i64 0) := (blk_cell BK502.out 1).trans rfl; have hcz62_2 : w60.cell? ⟨gb502, 2, none⟩ = some (.int .i64 0) := (blk_cell BK502.out 2).trans rfl; have hfz62_0 := blk_frozen BK502.out 0; have hfz62_1 := blk_frozen BK502.out 1; have hfz62_2 := blk_frozen BK502.out 2; have hcz63_0 : w60.cell? ⟨gb498, 0, none⟩ = some (.int .i64 a0_0) := (blk_cell BK498.out 0).trans rfl; have hcz63_1 : w60.cell? ⟨gb498, 1, none⟩ = some (.int .i64 a0_1) := (blk_cell BK498.out 1).trans rfl; have hcz63_2 : w60.cell? ⟨gb498, 2, none⟩ = some (.int .i64 a0_2) := (blk_cell BK498.out 2).trans rfl; have hfz63_0 := blk_frozen BK498.out 0; have hfz63_1 := blk_frozen BK498.out 1; have hfz63_2 := blk_frozen BK498.out 2) | ((with_reducible refine gate_callee (f := 67) rfl ?_); refine goesL_ (some 15) rfl rfl Tryd.func67 (by kernel_rfl) rfl #[.agg #[.int .i64 a0_0, .int .i64 a0_1, .int .i64 a0_2], .int .u64 a1] rfl (by (try simp only [List.map_toArray, List.map_cons, List.map_nil]); first | done | rfl | (simp only [List.length_drop, List.length_take]; rfl)) ?_; (with_reducible refine (flt_format_parts.calls a0_0 a0_1 a0_2 a1 t503 t504 t505 _ A4.out).mono ?_); rintro e w64 ⟨rfl, hb⟩; refine ⟨_, rfl, ?_⟩; have n0_ := Aside0.mk (blk_below (g := gb498) (o := .cells #[.int .i64 a0_0, .int .i64 a0_1, .int .i64 a0_2] 84 (0, 0)) (by (with_reducible repeat (first | refine blk_drewN ?_ _ | refine blk_drew ?_ | refine blk_alloc ?_ _)); refine blk_far ?_ NB498_502.out _; (with_reducible repeat (first | refine blk_drewN ?_ _ | refine blk_drew ?_ | refine blk_alloc ?_ _)); refine blk_far ?_ NB498_502.out _; (with_reducible repeat (first | refine blk_drewN ?_ _ | refine blk_drew ?_ | refine blk_alloc ?_ _)); refine blk_far ?_ NB498_502.out _; (with_reducible repeat (first | refine blk_drewN ?_ _ | refine blk_drew ?_ | refine blk_alloc ?_ _)); exact BK498.out) hb); have n1_ := Aside0.mk (blk_below (g := gb502) (o := .cells #[.int .i64 t499, .int .i64 t500, .int .i64 t501] 84 (0, 0)) (by (with_reducible repeat (first | refine blk_drewN ?_ _ | refine blk_drew ?_ | refine blk_alloc ?_ _)); refine blk_put (cs := #[.int .i64 t499, .int .i64 t500, .int .i64 0]) ?_ 2 _ rfl; (with_reducible repeat (first | refine blk_drewN ?_ _ | refine blk_drew ?_ | refine blk_alloc ?_ _)); refine blk_put (cs := #[.int .i64 t499, .int .i64 0, .int .i64 0]) ?_ 1 _ rfl; (with_reducible repeat (first | refine blk_drewN ?_ _ | refine blk_drew ?_ | refine blk_alloc ?_ _)); refine blk_put (cs := #[.int .i64 0, .int .i64 0, .int .i64 0]) ?_ 0 _ rfl; (with_reducible repeat (first | refine blk_drewN ?_ _ | refine blk_drew ?_ | refine blk_alloc ?_ _)); exact BK502.out) hb); have n2_ := Aside0.mk (below_step (by repeat (first | (with_reducible first | exact HB.out | apply below_alloc | apply pw_below_drewN | apply below_drew1 | refine below_set ?_ GE498.out | refine below_set ?_ GE502.out) | exact HB.out)) hb); clear BK498; clear BK502; clear HB; have BK498 := n0_; have BK502 := n1_; have HB := n2_; clear n0_ n1_ n2_; (try clear hb); (try clear hb2); (try clear hk); (try clear hi); have hcz65_0 : w64.cell? ⟨gb502, 0, none⟩ = some (.int .i64 t499) := (blk_cell BK502.out 0).trans rfl; have hcz65_1 : w64.cell? ⟨gb502, 1, none⟩ = some (.int .i64 t500) := (blk_cell BK502.out 1).trans rfl; have hcz65_2 : w64.cell? ⟨gb502, 2, none⟩ = some (.int .i64 t501) := (blk_cell BK502.out 2).trans rfl; have hfz65_0 := blk_frozen BK502.out 0; have hfz65_1 := blk_frozen BK502.out 1; have hfz65_2 := blk_frozen BK502.out 2; have hcz66_0 : w64.cell? ⟨gb498, 0, none⟩ = some (.int .i64 a0_0) := (blk_cell BK498.out 0).trans rfl; have hcz66_1 : w64.cell? ⟨gb498, 1, none⟩ = some (.int .i64 a0_1) := (blk_cell BK498.out 1).trans rfl; have hcz66_2 : w64.cell? ⟨gb498, 2, none⟩ = some (.int .i64 a0_2) := (blk_cell BK498.out 2).trans rfl; have hfz66_0 := blk_frozen BK498.out 0; have hfz66_1 := blk_frozen BK498.out 1; have hfz66_2 := blk_frozen BK498.out 2) | ((with_reducible refine gate_callee (f := 73) rfl ?_); refine goesL_ (some 32) rfl rfl Tryd.func73 (by kernel_rfl) rfl #[.agg #[.int .i64 a0_0, .int .i64 a0_1, .int .i64 a0_2]] rfl (by (try simp only [List.map_toArray, List.map_cons, List.map_nil]); first | done | rfl | (simp only [List.length_drop, List.length_take]; rfl)) ?_; (with_reducible refine (flt_format_top.calls a0_0 a0_1 a0_2 t506 _ A15.out).mono ?_); rintro e w67 ⟨rfl, hb⟩; refine ⟨_, rfl, ?_⟩; have n0_ := Aside0.mk (blk_below (g := gb498) (o := .cells #[.int .i64 a0_0, .int .i64 a0_1, .int .i64 a0_2] 84 (0, 0)) (by (with_reducible repeat (first | refine blk_drewN ?_ _ | refine blk_drew ?_ | refine blk_alloc ?_ _)); exact BK498.out) hb); have n1_ := Aside0.mk (blk_below (g := gb502) (o := .cells #[.int .i64 t499, .int .i64 t500, .int .i64 t501] 84 (0, 0)) (by (with_reducible repeat (first | refine blk_drewN ?_ _ | refine blk_drew ?_ | refine blk_alloc ?_ _)); exact BK502.out) hb); have n2_ := Aside0.mk (below_step (by repeat (first | (with_reducible first | exact HB.out | apply below_alloc | apply pw_below_drewN | apply below_drew1 | refine below_set ?_ GE498.out | refine below_set ?_ GE502.out) | exact HB.out)) hb); clear BK498; clear BK502; clear HB; have BK498 := n0_; have BK502 := n1_; have HB := n2_; clear n0_ n1_ n2_; (try clear hb); (try clear hb2); (try clear hk); (try clear hi); have hcz68_0 : w67.cell? ⟨gb502, 0, none⟩ = some (.int .i64 t499) := (blk_cell BK502.out 0).trans rfl; have hcz68_1 : w67.cell? ⟨gb502, 1, none⟩ = some (.int .i64 t500) := (blk_cell BK502.out 1).trans rfl; have hcz68_2 : w67.cell? ⟨gb502, 2, none⟩ = some (.int .i64 t501) := (blk_cell BK502.out 2).trans rfl; have hfz68_0 := blk_frozen BK502.out 0; have hfz68_1 := blk_frozen BK502.out 1; have hfz68_2 := blk_frozen BK502.out 2) | ((with_reducible refine gate_callee (f := 107) rfl ?_); refine goesL_ (some 63) rfl rfl Tryd.func107 (by kernel_rfl) rfl #[.agg #[.int .i64 t499, .int .i64 t500, .int .i64 t501], .int .u64 t503, .int .i64 0, .int .u64 0] rfl (by (try simp only [List.map_toArray, List.map_cons, List.map_nil]); first | done | rfl | (simp only [List.length_drop, List.length_take]; rfl)) ?_; (with_reducible refine (flt_format_join.calls t499 t500 t501 t503 0 0 t512 _ A57.out).mono ?_); rintro e w69 ⟨rfl, hb⟩; refine ⟨_, rfl, ?_⟩; have n0_ := Aside0.mk (blk_below (g := gb498) (o := .cells #[.int .i64 a0_0, .int .i64 a0_1, .int .i64 a0_2] 84 (0, 0)) (by (with_reducible repeat (first | refine blk_drewN ?_ _ | refine blk_drew ?_ | refine blk_alloc ?_ _)); exact BK498.out) hb); have n1_ := Aside0.mk (blk_below (g := gb502) (o := .cells #[.int .i64 t499, .int .i64 t500, .int .i64 t501] 84 (0, 0)) (by (with_reducible repeat (first | refine blk_drewN ?_ _ | refine blk_drew ?_ | refine blk_alloc ?_ _)); exact BK502.out) hb); have n2_ := Aside0.mk (below_step (by repeat (first | (with_reducible first | exact HB.out | apply below_alloc | apply pw_below_drewN | apply below_drew1 | refine below_set ?_ GE498.out | refine below_set ?_ GE502.out) | exact HB.out)) hb); clear BK498; clear BK502; clear HB; have BK498 := n0_; have BK502 := n1_; have HB := n2_; clear n0_ n1_ n2_; (try clear hb); (try clear hb2); (try clear hk); (try clear hi)))
          go_ret
          exact ⟨by first | rfl | (simp [errW_none, errW_some] <;> rfl) | (simp [*, errW_none, errW_some] <;> rfl), by repeat (first | (with_reducible first | exact HB.out | apply below_alloc | apply pw_below_drewN | apply below_drew1 | refine below_set ?_ GE498.out | refine below_set ?_ GE502.out) | exact HB.out)⟩
        · rw [if_neg c56] at H
          have c56b0 : (t505 == 0) = false := beq_eq_false_iff_ne.mpr c56
          have c56b1 : (t505 != 0) = true := bne_iff_ne.mpr c56
          replace H := Option.bind_eq_some_iff.mp H
          obtain ⟨t513, A700, H⟩ := H
          replace H : ((flt_format_bias.f a0_0 a0_1 a0_2).bind fun t514 => ((flt_format_bias.f t499 t500 t501).bind fun t515 => (if 0 ≤ (wrap64 (t501 - (wrap64 (t513 - 1)))) then (if 0 ≤ t501 then ((flt_format_join.f t499 t500 t501 t503 (wrap64 ((wrap64 ((wrap64 ((wrap64 ((wrap64 (t513 - 1)) + 1)) - t514)) - a0_2)) + t515)) (Go.bits .and .u64 (shl .u64 t505 (wrap64 (t501 - (wrap64 (t513 - 1))))) (IntKind.u64.wrap ((shl .u64 1 t501) - 1)))).bind fun t516 => (some t516)) else (none)) else (none)))) = some r := H
          have A70 := Aside0.mk A700
          clear A700
          replace H := Option.bind_eq_some_iff.mp H
          obtain ⟨t514, A710, H⟩ := H
          replace H : ((flt_format_bias.f t499 t500 t501).bind fun t515 => (if 0 ≤ (wrap64 (t501 - (wrap64 (t513 - 1)))) then (if 0 ≤ t501 then ((flt_format_join.f t499 t500 t501 t503 (wrap64 ((wrap64 ((wrap64 ((wrap64 ((wrap64 (t513 - 1)) + 1)) - t514)) - a0_2)) + t515)) (Go.bits .and .u64 (shl .u64 t505 (wrap64 (t501 - (wrap64 (t513 - 1))))) (IntKind.u64.wrap ((shl .u64 1 t501) - 1)))).bind fun t516 => (some t516)) else (none)) else (none))) = some r := H
          have A71 := Aside0.mk A710
          clear A710
          replace H := Option.bind_eq_some_iff.mp H
          obtain ⟨t515, A720, H⟩ := H
          replace H : (if 0 ≤ (wrap64 (t501 - (wrap64 (t513 - 1)))) then (if 0 ≤ t501 then ((flt_format_join.f t499 t500 t501 t503 (wrap64 ((wrap64 ((wrap64 ((wrap64 ((wrap64 (t513 - 1)) + 1)) - t514)) - a0_2)) + t515)) (Go.bits .and .u64 (shl .u64 t505 (wrap64 (t501 - (wrap64 (t513 - 1))))) (IntKind.u64.wrap ((shl .u64 1 t501) - 1)))).bind fun t516 => (some t516)) else (none)) else (none)) = some r := H
          have A72 := Aside0.mk A720
          clear A720
          obtain ⟨ji73, hji73⟩ : ∃ j_ : Int, (wrap64 (t501 - (wrap64 (t513 - 1)))) = j_ := ⟨_, rfl⟩
          replace H : (if 0 ≤ (ji73) then (if 0 ≤ t501 then ((flt_format_join.f t499 t500 t501 t503 (wrap64 ((wrap64 ((wrap64 ((wrap64 ((wrap64 (t513 - 1)) + 1)) - t514)) - a0_2)) + t515)) (Go.bits .and .u64 (shl .u64 t505 (ji73)) (IntKind.u64.wrap ((shl .u64 1 t501) - 1)))).bind fun t516 => (some t516)) else (none)) else (none)) = some r := by first | (rw [hji73] at H; exact H) | (simp only [hji73] at H ⊢; exact H)
          (try rw [hji73] at A3)
          (try rw [hji73] at A4)
          (try rw [hji73] at A15)
          (try rw [hji73] at A70)
          (try rw [hji73] at A71)
          (try rw [hji73] at A72)
          have hji73w : (IntKind.i64.wrap (t501 - (wrap64 (t513 - 1)))) = ji73 := (i64_w _).trans hji73
          by_cases c74 : 0 ≤ (ji73)
          · rw [if_pos c74] at H
            have c74b0 := eq_true c74
            have c74b1 : decide (0 ≤ (ji73)) = true := decide_eq_true c74
            clear c74
            obtain ⟨ji75, hji75⟩ : ∃ j_ : Int, (shl .u64 t505 (ji73)) = j_ := ⟨_, rfl⟩
            replace H : (if 0 ≤ t501 then ((flt_format_join.f t499 t500 t501 t503 (wrap64 ((wrap64 ((wrap64 ((wrap64 ((wrap64 (t513 - 1)) + 1)) - t514)) - a0_2)) + t515)) (Go.bits .and .u64 (ji75) (IntKind.u64.wrap ((shl .u64 1 t501) - 1)))).bind fun t516 => (some t516)) else (none)) = some r := by first | (rw [hji75] at H; exact H) | (simp only [hji75] at H ⊢; exact H)
            (try rw [hji75] at A3)
            (try rw [hji75] at A4)
            (try rw [hji75] at A15)
            (try rw [hji75] at A70)
            (try rw [hji75] at A71)
            (try rw [hji75] at A72)
            have hji75_ : (IntKind.u64.wrap (t505 * 2 ^ min (ji73).toNat 64)) = ji75 := hji75
            have hji75z : (ji73) ≤ 64 → (IntKind.u64.wrap (t505 * 2 ^ (ji73).toNat)) = ji75 := shl_small hji75
            by_cases c76 : 0 ≤ t501
            · rw [if_pos c76] at H
              have c76b0 := eq_true c76
              have c76b1 : decide (0 ≤ t501) = true := decide_eq_true c76
              clear c76
              obtain ⟨ji77, hji77⟩ : ∃ j_ : Int, (shl .u64 1 t501) = j_ := ⟨_, rfl⟩
              replace H : ((flt_format_join.f t499 t500 t501 t503 (wrap64 ((wrap64 ((wrap64 ((wrap64 ((wrap64 (t513 - 1)) + 1)) - t514)) - a0_2)) + t515)) (Go.bits .and .u64 (ji75) (IntKind.u64.wrap ((ji77) - 1)))).bind fun t516 => (some t516)) = some r := by first | (rw [hji77] at H; exact H) | (simp only [hji77] at H ⊢; exact H)
              (try rw [hji77] at A3)
              (try rw [hji77] at A4)
              (try rw [hji77] at A15)
              (try rw [hji77] at A70)
              (try rw [hji77] at A71)
              (try rw [hji77] at A72)
              have hji77_ : (IntKind.u64.wrap (1 * 2 ^ min t501.toNat 64)) = ji77 := hji77
              have hji77z : t501 ≤ 64 → (IntKind.u64.wrap (1 * 2 ^ t501.toNat)) = ji77 := shl_small hji77
              have hji77u : (IntKind.u64.wrap (2 ^ min t501.toNat 64)) = ji77 := by have h_ := hji77_; rw [Int.one_mul] at h_; exact h_
              have hji77v : t501 ≤ 64 → (IntKind.u64.wrap (2 ^ t501.toNat)) = ji77 := fun hle_ => by have h_ := hji77z hle_; rw [Int.one_mul] at h_; exact h_
              replace H := Option.bind_eq_some_iff.mp H
              obtain ⟨t516, A780, H⟩ := H
              replace H : (some t516) = some r := H
              have A78 := Aside0.mk A780
              clear A780
              obtain rfl := Option.some.inj H
              go_enter Tryd.func62, Tryd.ntmps62
              try go_wp2_with (first | ((with_reducible refine gate_dst (N := 2) rfl ?_); refine box_event ?hg (N := 2) ?hd (cs := #[.int .i64 a0_0, .int .i64 a0_1, .int .i64 a0_2]) (t := 84) ?hr ?_; (case hd => rfl); (case hg => rfl); (case hr => first | (go_simp; done) | (go_simp; rfl)); intro gb498 hg w79 hbox hb; have n0_ := Aside0.mk (below_step (by repeat (first | (with_reducible first | exact HB.out | apply below_alloc | apply pw_below_drewN | apply below_drew1) | exact HB.out)) hb); have n1_ := Aside0.mk (hbox); have n2_ := Aside0.mk ((by rw [hg]; exact (below_size (by repeat (first | (with_reducible first | exact HB.out | apply below_alloc | apply pw_below_drewN | apply below_drew1) | exact HB.out))) : w.heap.size ≤ gb498)); have n3_ := Aside0.mk ((by rw [hg]; exact (below_size (by repeat (first | (with_reducible first | exact HB.out | apply below_alloc | apply pw_below_drewN | apply below_drew1) | exact HB.out))) : w.heap.size ≤ gb498)); clear HB; have HB := n0_; have BK498 := n1_; have GW498 := n2_; have GE498 := n3_; clear n0_ n1_ n2_ n3_; clear hb hbox hg) | ((with_reducible refine gate_callee (f := 65) rfl ?_); refine goesL_ (some 11) rfl rfl Tryd.func65 (by kernel_rfl) rfl #[] rfl (by (try simp only [List.map_toArray, List.map_cons, List.map_nil]); first | done | rfl | (simp only [List.length_drop, List.length_take]; rfl)) ?_; (with_reducible refine (flt_wide.calls  t499 t500 t501 _ A3.out).mono ?_); rintro e w80 ⟨rfl, hb⟩; refine ⟨_, rfl, ?_⟩; have n0_ := Aside0.mk (blk_below (g := gb498) (o := .cells #[.int .i64 a0_0, .int .i64 a0_1, .int .i64 a0_2] 84 (0, 0)) (by (with_reducible repeat (first | refine blk_drewN ?_ _ | refine blk_drew ?_ | refine blk_alloc ?_ _)); exact BK498.out) hb); have n1_ := Aside0.mk (below_step (by repeat (first | (with_reducible first | exact HB.out | apply below_alloc | apply pw_below_drewN | apply below_drew1 | refine below_set ?_ GE498.out) | exact HB.out)) hb); clear BK498; clear HB; have BK498 := n0_; have HB := n1_; clear n0_ n1_; (try clear hb); (try clear hb2); (try clear hk); (try clear hi)) | ((with_reducible refine gate_dst (N := 5) rfl ?_); refine box_event ?hg (N := 5) ?hd (cs := #[.int .i64 0, .int .i64 0, .int .i64 0]) (t := 84) ?hr ?_; (case hd => rfl); (case hg => rfl); (case hr => first | (go_simp; done) | (go_simp; rfl)); intro gb502 hg w81 hbox hb; have n0_ := Aside0.mk (blk_below (g := gb498) (o := .cells #[.int .i64 a0_0, .int .i64 a0_1, .int .i64 a0_2] 84 (0, 0)) (by (with_reducible repeat (first | refine blk_drewN ?_ _ | refine blk_drew ?_ | refine blk_alloc ?_ _)); exact BK498.out) hb); have n1_ := Aside0.mk (below_step (by repeat (first | (with_reducible first | exact HB.out | apply below_alloc | apply pw_below_drewN | apply below_drew1 | refine below_set ?_ GE498.out) | exact HB.out)) hb); have n2_ := Aside0.mk (hbox); have n3_ := Aside0.mk ((by rw [hg]; exact (below_size (by repeat (first | (with_reducible first | exact HB.out | apply below_alloc | apply pw_below_drewN | apply below_drew1 | refine below_set ?_ GE498.out) | exact HB.out))) : w.heap.size ≤ gb502)); have n4_ := Aside0.mk ((by rw [hg]; exact (below_size (by repeat (first | (with_reducible first | exact HB.out | apply below_alloc | apply pw_below_drewN | apply below_drew1 | refine below_set ?_ GE498.out) | exact HB.out))) : w.heap.size ≤ gb502)); have n5_ := Aside0.mk ((by rw [hg]; exact Nat.ne_of_lt (blk_lt (g := gb498) (o := .cells #[.int .i64 a0_0, .int .i64 a0_1, .int .i64 a0_2] 84 (0, 0)) (by (with_reducible repeat (first | refine blk_drewN ?_ _ | refine blk_drew ?_ | refine blk_alloc ?_ _)); exact BK498.out)) : gb498 ≠ gb502)); have n6_ := Aside0.mk ((by rw [hg]; exact Nat.ne_of_gt (blk_lt (g := gb498) (o := .cells #[.int .i64 a0_0, .int .i64 a0_1, .int .i64 a0_2] 84 (0, 0)) (by (with_reducible repeat (first | refine blk_drewN ?_ _ | refine blk_drew ?_ | refine blk_alloc ?_ _)); exact BK498.out)) : gb502 ≠ gb498)); clear BK498; clear HB; have BK498 := n0_; have HB := n1_; have BK502 := n2_; have GW502 := n3_; have GE502 := n4_; have NB498_502 := n5_; have NB502_498 := n6_; clear n0_ n1_ n2_ n3_ n4_ n5_ n6_; clear hb hbox hg; have hnb82 := NB502_498.out; have hnc82 := NB498_502.out; have hcz83_0 : w81.cell? ⟨gb502, 0, none⟩ = some (.int .i64 0) := (blk_cell BK502.out 0).trans rfl; have hcz83_1 : w81.cell? ⟨gb502, 1, none⟩ = some (.int .i64 0) := (blk_cell BK502.out 1).trans rfl; have hcz83_2 : w81.cell? ⟨gb502, 2, none⟩ = some (.int .i64 0) := (blk_cell BK502.out 2).trans rfl; have hfz83_0 := blk_frozen BK502.out 0; have hfz83_1 := blk_frozen BK502.out 1; have hfz83_2 := blk_frozen BK502.out 2; have hcz84_0 : w81.cell? ⟨gb498, 0, none⟩ = some (.int .i64 a0_0) := (blk_cell BK498.out 0).trans rfl; have hcz84_1 : w81.cell? ⟨gb498, 1, none⟩ = some (.int .i64 a0_1) := (blk_cell BK498.out 1).trans rfl; have hcz84_2 : w81.cell? ⟨gb498, 2, none⟩ = some (.int .i64 a0_2) := (blk_cell BK498.out 2).trans rfl; have hfz84_0 := blk_frozen BK498.out 0; have hfz84_1 := blk_frozen BK498.out 1; have hfz84_2 := blk_frozen BK498.out 2) | ((with_reducible refine gate_callee (f := 67) rfl ?_); refine goesL_ (some 15) rfl rfl Tryd.func67 (by kernel_rfl) rfl #[.agg #[.int .i64 a0_0, .int .i64 a0_1, .int .i64 a0_2], .int .u64 a1] rfl (by (try simp only [List.map_toArray, List.map_cons, List.map_nil]); first | done | rfl | (simp only [List.length_drop, List.length_take]; rfl)) ?_; (with_reducible refine (flt_format_parts.calls a0_0 a0_1 a0_2 a1 t503 t504 t505 _ A4.out).mono ?_); rintro e w85 ⟨rfl, hb⟩; refine ⟨_, rfl, ?_⟩; have n0_ := Aside0.mk (blk_below (g := gb498) (o := .cells #[.int .i64 a0_0, .int .i64 a0_1, .int .i64 a0_2] 84 (0, 0)) (by (with_reducible repeat (first | refine blk_drewN ?_ _ | refine blk_drew ?_ | refine blk_alloc ?_ _)); refine blk_far ?_ NB498_502.out _; (with_reducible repeat (first | refine blk_drewN ?_ _ | refine blk_drew ?_ | refine blk_alloc ?_ _)); refine blk_far ?_ NB498_502.out _; (with_reducible repeat (first | refine blk_drewN ?_ _ | refine blk_drew ?_ | refine blk_alloc ?_ _)); refine blk_far ?_ NB498_502.out _; (with_reducible repeat (first | refine blk_drewN ?_ _ | refine blk_drew ?_ | refine blk_alloc ?_ _)); exact BK498.out) hb); have n1_ := Aside0.mk (blk_below (g := gb502) (o := .cells #[.int .i64 t499, .int .i64 t500, .int .i64 t501] 84 (0, 0)) (by (with_reducible repeat (first | refine blk_drewN ?_ _ | refine blk_drew ?_ | refine blk_alloc ?_ _)); refine blk_put (cs := #[.int .i64 t499, .int .i64 t500, .int .i64 0]) ?_ 2 _ rfl; (with_reducible repeat (first | refine blk_drewN ?_ _ | refine blk_drew ?_ | refine blk_alloc ?_ _)); refine blk_put (cs := #[.int .i64 t499, .int .i64 0, .int .i64 0]) ?_ 1 _ rfl; (with_reducible repeat (first | refine blk_drewN ?_ _ | refine blk_drew ?_ | refine blk_alloc ?_ _)); refine blk_put (cs := #[.int .i64 0, .int .i64 0, .int .i64 0]) ?_ 0 _ rfl; (with_reducible repeat (first | refine blk_drewN ?_ _ | refine blk_drew ?_ | refine blk_alloc ?_ _)); exact BK502.out) hb); have n2_ := Aside0.mk (below_step (by repeat (first | (with_reducible first | exact HB.out | apply below_alloc | apply pw_below_drewN | apply below_drew1 | refine below_set ?_ GE498.out | refine below_set ?_ GE502.out) | exact HB.out)) hb); clear BK498; clear BK502; clear HB; have BK498 := n0_; have BK502 := n1_; have HB := n2_; clear n0_ n1_ n2_; (try clear hb); (try clear hb2); (try clear hk); (try clear hi); have hcz86_0 : w85.cell? ⟨gb502, 0, none⟩ = some (.int .i64 t499) := (blk_cell BK502.out 0).trans rfl; have hcz86_1 : w85.cell? ⟨gb502, 1, none⟩ = some (.int .i64 t500) := (blk_cell BK502.out 1).trans rfl; have hcz86_2 : w85.cell? ⟨gb502, 2, none⟩ = some (.int .i64 t501) := (blk_cell BK502.out 2).trans rfl; have hfz86_0 := blk_frozen BK502.out 0; have hfz86_1 := blk_frozen BK502.out 1; have hfz86_2 := blk_frozen BK502.out 2; have hcz87_0 : w85.cell? ⟨gb498, 0, none⟩ = some (.int .i64 a0_0) := (blk_cell BK498.out 0).trans rfl; have hcz87_1 : w85.cell? ⟨gb498, 1, none⟩ = some (.int .i64 a0_1) := (blk_cell BK498.out 1).trans rfl; have hcz87_2 : w85.cell? ⟨gb498, 2, none⟩ = some (.int .i64 a0_2) := (blk_cell BK498.out 2).trans rfl; have hfz87_0 := blk_frozen BK498.out 0; have hfz87_1 := blk_frozen BK498.out 1; have hfz87_2 := blk_frozen BK498.out 2) | ((with_reducible refine gate_callee (f := 73) rfl ?_); refine goesL_ (some 32) rfl rfl Tryd.func73 (by kernel_rfl) rfl #[.agg #[.int .i64 a0_0, .int .i64 a0_1, .int .i64 a0_2]] rfl (by (try simp only [List.map_toArray, List.map_cons, List.map_nil]); first | done | rfl | (simp only [List.length_drop, List.length_take]; rfl)) ?_; (with_reducible refine (flt_format_top.calls a0_0 a0_1 a0_2 t506 _ A15.out).mono ?_); rintro e w88 ⟨rfl, hb⟩; refine ⟨_, rfl, ?_⟩; have n0_ := Aside0.mk (blk_below (g := gb498) (o := .cells #[.int .i64 a0_0, .int .i64 a0_1, .int .i64 a0_2] 84 (0, 0)) (by (with_reducible repeat (first | refine blk_drewN ?_ _ | refine blk_drew ?_ | refine blk_alloc ?_ _)); exact BK498.out) hb); have n1_ := Aside0.mk (blk_below (g := gb502) (o := .cells #[.int .i64 t499, .int .i64 t500, .int .i64 t501] 84 (0, 0)) (by (with_reducible repeat (first | refine blk_drewN ?_ _ | refine blk_drew ?_ | refine blk_alloc ?_ _)); exact BK502.out) hb); have n2_ := Aside0.mk (below_step (by repeat (first | (with_reducible first | exact HB.out | apply below_alloc | apply pw_below_drewN | apply below_drew1 | refine below_set ?_ GE498.out | refine below_set ?_ GE502.out) | exact HB.out)) hb); clear BK498; clear BK502; clear HB; have BK498 := n0_; have BK502 := n1_; have HB := n2_; clear n0_ n1_ n2_; (try clear hb); (try clear hb2); (try clear hk); (try clear hi)) | ((with_reducible refine gate_callee (f := 61) rfl ?_); refine goesL_ (some 65) rfl rfl Tryd.func61 (by kernel_rfl) rfl #[.int .u64 t505] rfl (by (try simp only [List.map_toArray, List.map_cons, List.map_nil]); first | done | rfl | (simp only [List.length_drop, List.length_take]; rfl)) ?_; (with_reducible refine (bits_Len64.calls t505 t513 _ A70.out).mono ?_); rintro e w' ⟨rfl, ⟨nd, rfl⟩⟩; refine ⟨_, rfl, ?_⟩))
              (try (rw [drewN_self w88]; generalize hq_ : World.drewN w88 _ = w88; have n0_ : Aside0 (w88.heap[gb498]? = some (.cells #[.int .i64 a0_0, .int .i64 a0_1, .int .i64 a0_2] 84 (0, 0))) := ⟨by rw [← hq_]; exact (by (with_reducible repeat (first | refine blk_drewN ?_ _ | refine blk_drew ?_ | refine blk_alloc ?_ _)); exact BK498.out)⟩; have n1_ : Aside0 (w88.heap[gb502]? = some (.cells #[.int .i64 t499, .int .i64 t500, .int .i64 t501] 84 (0, 0))) := ⟨by rw [← hq_]; exact (by (with_reducible repeat (first | refine blk_drewN ?_ _ | refine blk_drew ?_ | refine blk_alloc ?_ _)); exact BK502.out)⟩; have n2_ : Aside0 (Below w.heap.size w w88) := ⟨by rw [← hq_]; exact (by repeat (first | (with_reducible first | exact HB.out | apply below_alloc | apply pw_below_drewN | apply below_drew1 | refine below_set ?_ GE498.out | refine below_set ?_ GE502.out) | exact HB.out))⟩; clear BK498 BK502 HB hq_; have BK498 := n0_; have BK502 := n1_; have HB := n2_; clear n0_ n1_ n2_))
              have n0_ := Aside0.mk (blk_drew BK498.out)
              have n1_ := Aside0.mk (blk_drew BK502.out)
              have n2_ := Aside0.mk (below_drew1 HB.out)
              clear BK498
              clear BK502
              clear HB
              have BK498 := n0_
              have BK502 := n1_
              have HB := n2_
              clear n0_ n1_ n2_
              refine start_ (n := 26) (S := fun w' => w'.cell? ⟨gb502, 0, none⟩ = some (.int .i64 t499) ∧ w'.cell? ⟨gb502, 1, none⟩ = some (.int .i64 t500) ∧ w'.cell? ⟨gb502, 2, none⟩ = some (.int .i64 t501) ∧ w'.cell? ⟨gb498, 0, none⟩ = some (.int .i64 a0_0) ∧ w'.cell? ⟨gb498, 1, none⟩ = some (.int .i64 a0_1) ∧ w'.cell? ⟨gb498, 2, none⟩ = some (.int .i64 a0_2)) (ds := []) #[false, false, false, false, false, false, false, false, false, false, false, false, false, false, false, false, false, false, false, false, false, false, false, false, false, false] (by kernel_rfl) rfl rfl ⟨(blk_cell BK502.out 0).trans rfl, (blk_cell BK502.out 1).trans rfl, (blk_cell BK502.out 2).trans rfl, (blk_cell BK498.out 0).trans rfl, (blk_cell BK498.out 1).trans rfl, (blk_cell BK498.out 2).trans rfl⟩ (fun hHeld => ?_); refine with_tabW flt_format_widen.tab13 flt_format_widen.bits13 (fun HT_ HW_ => ?_)
              generalize w88.drew = w89 at BK498 BK502 HB hHeld ⊢
              refine pure_ (i := 1) (N := some 68) (v := ?_) (a' := ?_) #[false, true, false, false, false, false, false, false, false, false, false, false, false, false, false, false, false, false, false, false, false, false, false, false, false, false] rfl rfl (any_of HT_.out (by kernel_rfl)) (fun _ _ _ h => h) (Or.inl ⟨by rfl, ?_⟩) ?_ ?_
              rotate_left
              · intro w'
                go_simp
                with_reducible rfl
              rotate_left
              · simp only [Act.put, List.setIfInBounds_toArray, List.set_cons_zero, List.set_cons_succ, i64_w, i32_w]
                rfl
              refine pure_ (i := 2) (N := some 69) (v := ?_) (a' := ?_) #[false, true, true, false, false, false, false, false, false, false, false, false, false, false, false, false, false, false, false, false, false, false, false, false, false, false] rfl rfl (any_of HT_.out (by kernel_rfl)) (fun _ _ _ h => h) (Or.inl ⟨by rfl, ?_⟩) ?_ ?_
              rotate_left
              · intro w'
                go_simp
                with_reducible rfl
              rotate_left
              · simp only [Act.put, List.setIfInBounds_toArray, List.set_cons_zero, List.set_cons_succ, i64_w, i32_w]
                rfl
              refine pure_ (i := 3) (N := some 70) (v := ?_) (a' := ?_) #[false, true, true, true, false, false, false, false, false, false, false, false, false, false, false, false, false, false, false, false, false, false, false, false, false, false] rfl rfl (any_of HT_.out (by kernel_rfl)) (fun _ _ _ h => h) (Or.inl ⟨by rfl, ?_⟩) ?_ ?_
              rotate_left
              · intro w'
                go_simp
                with_reducible rfl
              rotate_left
              · simp only [Act.put, List.setIfInBounds_toArray, List.set_cons_zero, List.set_cons_succ, i64_w, i32_w]
                rfl
              refine pure_ (i := 7) (N := some 74) (v := ?_) (a' := ?_) #[false, true, true, true, false, false, false, true, false, false, false, false, false, false, false, false, false, false, false, false, false, false, false, false, false, false] rfl rfl (any_of HT_.out (by kernel_rfl)) (fun _ _ _ h => h) (Or.inl ⟨by rfl, ?_⟩) ?_ ?_
              rotate_left
              · intro w'
                go_simp
                with_reducible rfl
              rotate_left
              · simp only [Act.put, List.setIfInBounds_toArray, List.set_cons_zero, List.set_cons_succ, i64_w, i32_w]
                rfl
              refine pure_ (i := 13) (N := some 80) (v := ?_) (a' := ?_) #[false, true, true, true, false, false, false, true, false, false, false, false, false, true, false, false, false, false, false, false, false, false, false, false, false, false] rfl rfl (any_of HT_.out (by kernel_rfl)) (fun _ _ _ h => h) (Or.inl ⟨by rfl, ?_⟩) ?_ ?_
              rotate_left
              · intro w'
                go_simp
                with_reducible rfl
              rotate_left
              · simp only [Act.put, List.setIfInBounds_toArray, List.set_cons_zero, List.set_cons_succ, i64_w, i32_w]
                rfl
              refine pure_ (i := 14) (N := some 81) (v := ?_) (a' := ?_) #[false, true, true, true, false, false, false, true, false, false, false, false, false, true, true, false, false, false, false, false, false, false, false, false, false, false] rfl rfl (any_of HT_.out (by kernel_rfl)) (fun _ _ _ h => h) (Or.inl ⟨by rfl, ?_⟩) ?_ ?_
              rotate_left
              · intro w'
                go_simp
                with_reducible rfl
              rotate_left
              · simp only [Act.put, List.setIfInBounds_toArray, List.set_cons_zero, List.set_cons_succ, i64_w, i32_w]
                rfl
              refine pure_ (i := 16) (N := some 83) (v := ?_) (a' := ?_) #[false, true, true, true, false, false, false, true, false, false, false, false, false, true, true, false, true, false, false, false, false, false, false, false, false, false] rfl rfl (any_of HT_.out (by kernel_rfl)) (fun _ _ _ h => h) (Or.inl ⟨by rfl, ?_⟩) ?_ ?_
              rotate_left
              · intro w'
                go_simp
                with_reducible rfl
              rotate_left
              · simp only [Act.put, List.setIfInBounds_toArray, List.set_cons_zero, List.set_cons_succ, i64_w, i32_w]
                rfl
              refine pure_ (i := 19) (N := some 86) (v := ?_) (a' := ?_) #[false, true, true, true, false, false, false, true, false, false, false, false, false, true, true, false, true, false, false, true, false, false, false, false, false, false] rfl rfl (any_of HT_.out (by kernel_rfl)) (fun _ _ _ h => h) (Or.inl ⟨by rfl, ?_⟩) ?_ ?_
              rotate_left
              · intro w'
                go_simp
                with_reducible rfl
              rotate_left
              · simp only [Act.put, List.setIfInBounds_toArray, List.set_cons_zero, List.set_cons_succ, i64_w, i32_w]
                rfl
              refine take_ (i := 0) (N := some 67) (v := ?_) (a' := ?_) #[true, true, true, true, false, false, false, true, false, false, false, false, false, true, true, false, true, false, false, true, false, false, false, false, false, false] rfl rfl (take_ofW HT_.out HW_.out (by kernel_rfl)) (fun _ _ _ h => h) (Or.inl ⟨by rfl, ?_⟩) hHeld ?_ ?_
              rotate_left
              · rintro w' ⟨s0, s1, s2, s3, s4, s5⟩
                go_simp
                with_reducible rfl
              rotate_left
              · simp only [Act.put, List.setIfInBounds_toArray, List.set_cons_zero, List.set_cons_succ, i64_w, i32_w]
                rfl
              refine take_ (i := 4) (N := some 71) (v := ?_) (a' := ?_) #[true, true, true, true, true, false, false, true, false, false, false, false, false, true, true, false, true, false, false, true, false, false, false, false, false, false] rfl rfl (take_ofW HT_.out HW_.out (by kernel_rfl)) (fun _ _ _ h => h) (Or.inl ⟨by rfl, ?_⟩) hHeld ?_ ?_
              rotate_left
              · rintro w' ⟨s0, s1, s2, s3, s4, s5⟩
                go_simp
                with_reducible rfl
              rotate_left
              · simp only [Act.put, List.setIfInBounds_toArray, List.set_cons_zero, List.set_cons_succ, i64_w, i32_w]
                rfl
              refine take_ (i := 8) (N := some 75) (v := ?_) (a' := ?_) #[true, true, true, true, true, false, false, true, true, false, false, false, false, true, true, false, true, false, false, true, false, false, false, false, false, false] rfl rfl (take_ofW HT_.out HW_.out (by kernel_rfl)) (fun _ _ _ h => h) (Or.inl ⟨by rfl, ?_⟩) hHeld ?_ ?_
              rotate_left
              · rintro w' ⟨s0, s1, s2, s3, s4, s5⟩
                go_simp
                with_reducible rfl
              rotate_left
              · simp only [Act.put, List.setIfInBounds_toArray, List.set_cons_zero, List.set_cons_succ, i64_w, i32_w]
                rfl
              refine take_ (i := 10) (N := some 77) (v := ?_) (a' := ?_) #[true, true, true, true, true, false, false, true, true, false, true, false, false, true, true, false, true, false, false, true, false, false, false, false, false, false] rfl rfl (take_ofW HT_.out HW_.out (by kernel_rfl)) (fun _ _ _ h => h) (Or.inl ⟨by rfl, ?_⟩) hHeld ?_ ?_
              rotate_left
              · rintro w' ⟨s0, s1, s2, s3, s4, s5⟩
                go_simp
                with_reducible rfl
              rotate_left
              · simp only [Act.put, List.setIfInBounds_toArray, List.set_cons_zero, List.set_cons_succ, i64_w, i32_w]
                rfl
              refine take_ (i := 15) (N := some 82) (v := ?_) (a' := ?_) #[true, true, true, true, true, false, false, true, true, false, true, false, false, true, true, true, true, false, false, true, false, false, false, false, false, false] rfl rfl (take_ofW HT_.out HW_.out (by kernel_rfl)) (fun _ _ _ h => h) (Or.inl ⟨by rfl, ?_⟩) hHeld ?_ ?_
              rotate_left
              · rintro w' ⟨s0, s1, s2, s3, s4, s5⟩
                go_simp
                with_reducible rfl
              rotate_left
              · simp only [Act.put, List.setIfInBounds_toArray, List.set_cons_zero, List.set_cons_succ, i64_w, i32_w]
                rfl
              refine pure_ (i := 17) (N := some 84) (v := ?_) (a' := ?_) #[true, true, true, true, true, false, false, true, true, false, true, false, false, true, true, true, true, true, false, true, false, false, false, false, false, false] rfl rfl (any_of HT_.out (by kernel_rfl)) (fun _ _ _ h => h) (Or.inl ⟨by rfl, ?_⟩) ?_ ?_
              rotate_left
              · intro w'
                go_simp
                with_reducible rfl
              rotate_left
              · simp only [Act.put, List.setIfInBounds_toArray, List.set_cons_zero, List.set_cons_succ, i64_w, i32_w]
                rfl
              refine pure_ (i := 18) (N := some 85) (v := ?_) (a' := ?_) #[true, true, true, true, true, false, false, true, true, false, true, false, false, true, true, true, true, true, true, true, false, false, false, false, false, false] rfl rfl (any_of HT_.out (by kernel_rfl)) (fun _ _ _ h => h) (Or.inl ⟨by rfl, ?_⟩) ?_ ?_
              rotate_left
              · intro w'
                go_simp
                with_reducible rfl
              rotate_left
              · simp only [Act.put, List.setIfInBounds_toArray, List.set_cons_zero, List.set_cons_succ, i64_w, i32_w]
                rfl
              refine take_ (i := 20) (N := some 87) (v := ?_) (a' := ?_) #[true, true, true, true, true, false, false, true, true, false, true, false, false, true, true, true, true, true, true, true, true, false, false, false, false, false] rfl rfl (take_ofW HT_.out HW_.out (by kernel_rfl)) (fun _ _ _ h => h) (Or.inl ⟨by rfl, ?_⟩) hHeld ?_ ?_
              rotate_left
              · rintro w' ⟨s0, s1, s2, s3, s4, s5⟩
                go_simp
                with_reducible rfl
              rotate_left
              · simp only [Act.put, List.setIfInBounds_toArray, List.set_cons_zero, List.set_cons_succ, i64_w, i32_w]
                rfl
              refine pure_ (i := 21) (N := some 88) (v := ?_) (a' := ?_) #[true, true, true, true, true, false, false, true, true, false, true, false, false, true, true, true, true, true, true, true, true, true, false, false, false, false] rfl rfl (any_of HT_.out (by kernel_rfl)) (fun _ _ _ h => h) (Or.inl ⟨by rfl, ?_⟩) ?_ ?_
              rotate_left
              · intro w'
                go_simp
                with_reducible rfl
              rotate_left
              · simp only [Act.put, List.setIfInBounds_toArray, List.set_cons_zero, List.set_cons_succ, i64_w, i32_w]
                rfl
              refine pure_ (i := 22) (N := some 89) (v := ?_) (a' := ?_) #[true, true, true, true, true, false, false, true, true, false, true, false, false, true, true, true, true, true, true, true, true, true, true, false, false, false] rfl rfl (any_of HT_.out (by kernel_rfl)) (fun _ _ _ h => h) (Or.inl ⟨by rfl, ?_⟩) ?_ ?_
              rotate_left
              · intro w'
                go_simp
                with_reducible rfl
              rotate_left
              · simp only [Act.put, List.setIfInBounds_toArray, List.set_cons_zero, List.set_cons_succ, i64_w, i32_w]
                rfl
              refine pure_ (i := 23) (N := some 90) (v := ?_) (a' := ?_) #[true, true, true, true, true, false, false, true, true, false, true, false, false, true, true, true, true, true, true, true, true, true, true, true, false, false] rfl rfl (any_of HT_.out (by kernel_rfl)) (fun _ _ _ h => h) (Or.inl ⟨by rfl, ?_⟩) ?_ ?_
              rotate_left
              · intro w'
                go_simp
                with_reducible rfl
              rotate_left
              · simp only [Act.put, List.setIfInBounds_toArray, List.set_cons_zero, List.set_cons_succ, i64_w, i32_w]
                rfl
              refine one_ (i := 5) (N := some 72) #[true, true, true, true, true, true, false, true, true, false, true, false, false, true, true, true, true, true, true, true, true, true, true, true, false, false] rfl rfl (one_of HT_.out (by kernel_rfl)) (by decide) (fun K hK => ?_)
              refine goes_ Tryd.func68 (by kernel_rfl) rfl #[.agg #[.int .i64 a0_0, .int .i64 a0_1, .int .i64 a0_2]] (by rfl) rfl rfl (by (try simp only [List.map_toArray, List.map_cons, List.map_nil]); first | done | rfl | (simp only [List.length_drop, List.length_take]; rfl)) ?_
              with_reducible refine (flt_format_bias.calls a0_0 a0_1 a0_2 t514 _ A71.out).mono ?_
              rintro e w90 ⟨rfl, hb⟩
              refine ⟨_, rfl, ?_⟩
              have n0_ := Aside0.mk (blk_below (g := gb498) (o := .cells #[.int .i64 a0_0, .int .i64 a0_1, .int .i64 a0_2] 84 (0, 0)) (by (with_reducible repeat (first | refine blk_drewN ?_ _ | refine blk_drew ?_ | refine blk_alloc ?_ _)); exact BK498.out) hb)
              have n1_ := Aside0.mk (blk_below (g := gb502) (o := .cells #[.int .i64 t499, .int .i64 t500, .int .i64 t501] 84 (0, 0)) (by (with_reducible repeat (first | refine blk_drewN ?_ _ | refine blk_drew ?_ | refine blk_alloc ?_ _)); exact BK502.out) hb)
              have n2_ := Aside0.mk (below_step (by repeat (first | (with_reducible first | exact HB.out | apply below_alloc | apply pw_below_drewN | apply below_drew1 | refine below_set ?_ GE498.out | refine below_set ?_ GE502.out) | exact HB.out)) hb)
              clear BK498
              clear BK502
              clear HB
              have BK498 := n0_
              have BK502 := n1_
              have HB := n2_
              clear n0_ n1_ n2_
              (try clear hb)
              (try clear hb2)
              (try clear hk)
              (try clear hi)
              refine hK.out _ _ ⟨(blk_cell BK502.out 0).trans rfl, (blk_cell BK502.out 1).trans rfl, (blk_cell BK502.out 2).trans rfl, (blk_cell BK498.out 0).trans rfl, (blk_cell BK498.out 1).trans rfl, (blk_cell BK498.out 2).trans rfl⟩ (fun hHeld => ?_)
              clear hK K
              refine norm_ (a' := ?_) ?_ ?_
              rotate_left
              · show Act.put _ (some 72) _ = _
                simp only [Act.put, List.setIfInBounds_toArray, List.set_cons_zero, List.set_cons_succ, i64_w, i32_w]
                rfl
              refine pure_ (i := 6) (N := some 73) (v := ?_) (a' := ?_) #[true, true, true, true, true, true, true, true, true, false, true, false, false, true, true, true, true, true, true, true, true, true, true, true, false, false] rfl rfl (any_of HT_.out (by kernel_rfl)) (fun _ _ _ h => h) (Or.inl ⟨by rfl, ?_⟩) ?_ ?_
              rotate_left
              · intro w'
                go_simp
                with_reducible rfl
              rotate_left
              · simp only [Act.put, List.setIfInBounds_toArray, List.set_cons_zero, List.set_cons_succ, i64_w, i32_w]
                rfl
              refine pure_ (i := 9) (N := some 76) (v := ?_) (a' := ?_) #[true, true, true, true, true, true, true, true, true, true, true, false, false, true, true, true, true, true, true, true, true, true, true, true, false, false] rfl rfl (any_of HT_.out (by kernel_rfl)) (fun _ _ _ h => h) (Or.inl ⟨by rfl, ?_⟩) ?_ ?_
              rotate_left
              · intro w'
                go_simp
                with_reducible rfl
              rotate_left
              · simp only [Act.put, List.setIfInBounds_toArray, List.set_cons_zero, List.set_cons_succ, i64_w, i32_w]
                rfl
              refine one_ (i := 11) (N := some 78) #[true, true, true, true, true, true, true, true, true, true, true, true, false, true, true, true, true, true, true, true, true, true, true, true, false, false] rfl rfl (one_of HT_.out (by kernel_rfl)) (by decide) (fun K hK => ?_)
              refine goes_ Tryd.func68 (by kernel_rfl) rfl #[.agg #[.int .i64 t499, .int .i64 t500, .int .i64 t501]] (by rfl) rfl rfl (by (try simp only [List.map_toArray, List.map_cons, List.map_nil]); first | done | rfl | (simp only [List.length_drop, List.length_take]; rfl)) ?_
              with_reducible refine (flt_format_bias.calls t499 t500 t501 t515 _ A72.out).mono ?_
              rintro e w91 ⟨rfl, hb⟩
              refine ⟨_, rfl, ?_⟩
              have n0_ := Aside0.mk (blk_below (g := gb498) (o := .cells #[.int .i64 a0_0, .int .i64 a0_1, .int .i64 a0_2] 84 (0, 0)) (by (with_reducible repeat (first | refine blk_drewN ?_ _ | refine blk_drew ?_ | refine blk_alloc ?_ _)); exact BK498.out) hb)
              have n1_ := Aside0.mk (blk_below (g := gb502) (o := .cells #[.int .i64 t499, .int .i64 t500, .int .i64 t501] 84 (0, 0)) (by (with_reducible repeat (first | refine blk_drewN ?_ _ | refine blk_drew ?_ | refine blk_alloc ?_ _)); exact BK502.out) hb)
              have n2_ := Aside0.mk (below_step (by repeat (first | (with_reducible first | exact HB.out | apply below_alloc | apply pw_below_drewN | apply below_drew1 | refine below_set ?_ GE498.out | refine below_set ?_ GE502.out) | exact HB.out)) hb)
              clear BK498
              clear BK502
              clear HB
              have BK498 := n0_
              have BK502 := n1_
              have HB := n2_
              clear n0_ n1_ n2_
              (try clear hb)
              (try clear hb2)
              (try clear hk)
              (try clear hi)
              refine hK.out _ _ ⟨(blk_cell BK502.out 0).trans rfl, (blk_cell BK502.out 1).trans rfl, (blk_cell BK502.out 2).trans rfl, (blk_cell BK498.out 0).trans rfl, (blk_cell BK498.out 1).trans rfl, (blk_cell BK498.out 2).trans rfl⟩ (fun hHeld => ?_)
              clear hK K
              refine norm_ (a' := ?_) ?_ ?_
              rotate_left
              · show Act.put _ (some 78) _ = _
                simp only [Act.put, List.setIfInBounds_toArray, List.set_cons_zero, List.set_cons_succ, i64_w, i32_w]
                rfl
              refine pure_ (i := 12) (N := some 79) (v := ?_) (a' := ?_) #[true, true, true, true, true, true, true, true, true, true, true, true, true, true, true, true, true, true, true, true, true, true, true, true, false, false] rfl rfl (any_of HT_.out (by kernel_rfl)) (fun _ _ _ h => h) (Or.inl ⟨by rfl, ?_⟩) ?_ ?_
              rotate_left
              · intro w'
                go_simp
                with_reducible rfl
              rotate_left
              · simp only [Act.put, List.setIfInBounds_toArray, List.set_cons_zero, List.set_cons_succ, i64_w, i32_w]
                rfl
              refine one_ (i := 24) (N := some 91) #[true, true, true, true, true, true, true, true, true, true, true, true, true, true, true, true, true, true, true, true, true, true, true, true, true, false] rfl rfl (one_of HT_.out (by kernel_rfl)) (by decide) (fun K hK => ?_)
              refine goes_ Tryd.func107 (by kernel_rfl) rfl #[.agg #[.int .i64 t499, .int .i64 t500, .int .i64 t501], .int .u64 t503, .int .i64 (wrap64 ((wrap64 ((wrap64 ((wrap64 ((wrap64 (t513 - 1)) + 1)) - t514)) - a0_2)) + t515)), .int .u64 (Go.bits .and .u64 (ji75) (IntKind.u64.wrap ((ji77) - 1)))] (by rfl) rfl rfl (by (try simp only [List.map_toArray, List.map_cons, List.map_nil]); first | done | (simp only [hji75, hji77]; rfl) | rfl | (simp only [List.length_drop, List.length_take]; rfl)) ?_
              with_reducible refine (flt_format_join.calls t499 t500 t501 t503 (wrap64 ((wrap64 ((wrap64 ((wrap64 ((wrap64 (t513 - 1)) + 1)) - t514)) - a0_2)) + t515)) (Go.bits .and .u64 (ji75) (IntKind.u64.wrap ((ji77) - 1))) t516 _ A78.out).mono ?_
              rintro e w92 ⟨rfl, hb⟩
              refine ⟨_, rfl, ?_⟩
              have n0_ := Aside0.mk (blk_below (g := gb498) (o := .cells #[.int .i64 a0_0, .int .i64 a0_1, .int .i64 a0_2] 84 (0, 0)) (by (with_reducible repeat (first | refine blk_drewN ?_ _ | refine blk_drew ?_ | refine blk_alloc ?_ _)); exact BK498.out) hb)
              have n1_ := Aside0.mk (blk_below (g := gb502) (o := .cells #[.int .i64 t499, .int .i64 t500, .int .i64 t501] 84 (0, 0)) (by (with_reducible repeat (first | refine blk_drewN ?_ _ | refine blk_drew ?_ | refine blk_alloc ?_ _)); exact BK502.out) hb)
              have n2_ := Aside0.mk (below_step (by repeat (first | (with_reducible first | exact HB.out | apply below_alloc | apply pw_below_drewN | apply below_drew1 | refine below_set ?_ GE498.out | refine below_set ?_ GE502.out) | exact HB.out)) hb)
              clear BK498
              clear BK502
              clear HB
              have BK498 := n0_
              have BK502 := n1_
              have HB := n2_
              clear n0_ n1_ n2_
              (try clear hb)
              (try clear hb2)
              (try clear hk)
              (try clear hi)
              refine hK.out _ _ ⟨(blk_cell BK502.out 0).trans rfl, (blk_cell BK502.out 1).trans rfl, (blk_cell BK502.out 2).trans rfl, (blk_cell BK498.out 0).trans rfl, (blk_cell BK498.out 1).trans rfl, (blk_cell BK498.out 2).trans rfl⟩ (fun hHeld => ?_)
              clear hK K
              refine norm_ (a' := ?_) ?_ ?_
              rotate_left
              · show Act.put _ (some 91) _ = _
                simp only [Act.put, List.setIfInBounds_toArray, List.set_cons_zero, List.set_cons_succ, i64_w, i32_w]
                rfl
              refine pure_ (i := 25) (N := some 4) (v := ?_) (a' := ?_) #[true, true, true, true, true, true, true, true, true, true, true, true, true, true, true, true, true, true, true, true, true, true, true, true, true, true] rfl rfl (any_of HT_.out (by kernel_rfl)) (fun _ _ _ h => h) (Or.inl ⟨by rfl, ?_⟩) ?_ ?_
              rotate_left
              · intro w'
                go_simp
                with_reducible rfl
              rotate_left
              · simp only [Act.put, List.setIfInBounds_toArray, List.set_cons_zero, List.set_cons_succ, i64_w, i32_w]
                rfl
              refine done_ (done_of HT_.out (by kernel_rfl)) ?_
              try go_wp2
              go_ret
              exact ⟨by first | rfl | (simp [errW_none, errW_some] <;> rfl) | (simp only [← hji73, ← hji75, ← hji77]; first | rfl | (simp [errW_none, errW_some] <;> rfl)) | (simp [*, errW_none, errW_some] <;> rfl), by repeat (first | (with_reducible first | exact HB.out | apply below_alloc | apply pw_below_drewN | apply below_drew1 | refine below_set ?_ GE498.out | refine below_set ?_ GE502.out) | exact HB.out)⟩
            · rw [if_neg c76] at H
              exact absurd H (by simp)
          · rw [if_neg c74] at H
            exact absurd H (by simp)
end Go.Proofs.YtfndkpifgmcomaaDoor.XD
end
section
namespace Go.Proofs.YtfndkpifgmcomaaDoor.XD
open Go.RowKit Go.Proofs.YtfndkpifgmcomaaDoorW.PrintWords Go.Proofs.YtfndkpifgmcomaaDoorW.PrintLast Go.Proofs.YtfndkpifgmcomaaDoorW.PrintMore
attribute [local go_sem] max2_int min2_int max_two min_two max_three min_three max_four min_four
set_option linter.unusedVariables false
set_option linter.unusedSimpArgs false
def flt_format_narrow.j0 : Nat → Int → Int → Int → Int → Bool → Int → Int → Int → Int → Int → Int → Option (Int)
  | 0, _, _, _, _, _, _, _, _, _, _, _ => none
  | k + 1, x6, x8, x9, x10, x44, x518000, x518001, x518002, x522000, x522001, x522002 => if x44 = true then ((flt_format_join.f x518000 x518001 x518002 x6 0 0).bind fun t531 => (some t531)) else (if x9 > 0 then (if 0 ≤ x10 then ((flt_format_join.f x518000 x518001 x518002 x6 x9 (shr .u64 x8 x10)).bind fun t532 => (some t532)) else (none)) else (if 0 ≤ x522002 then (if 0 ≤ (mn (wrap64 ((wrap64 (x10 + 1)) - x9)) 63) then ((flt_format_join.f x518000 x518001 x518002 x6 0 ((Go.bits .or .u64 (shl .u64 1 x522002) x8) / 2 ^ (mn (wrap64 ((wrap64 (x10 + 1)) - x9)) 63).toNat)).bind fun t533 => (some t533)) else (none)) else (none)))
def flt_format_narrow.f (k : Nat) (a0_0 : Int) (a0_1 : Int) (a0_2 : Int) (a1 : Int) : Option (Int) := (flt_wide.f).bind fun bt518 => ((flt_format_parts.f bt518.1 bt518.2.1 bt518.2.2 a1).bind fun bt522 => ((flt_format_bias.f bt518.1 bt518.2.1 bt518.2.2).bind fun t525 => ((flt_format_bias.f a0_0 a0_1 a0_2).bind fun t526 => ((flt_format_top.f bt518.1 bt518.2.1 bt518.2.2).bind fun t527 => (if bt522.2.1 = t527 then ((flt_format_top.f a0_0 a0_1 a0_2).bind fun t528 => (if 0 ≤ (wrap64 (bt518.2.2 - a0_2)) then ((flt_format_join.f a0_0 a0_1 a0_2 bt522.1 t528 (shr .u64 bt522.2.2 (wrap64 (bt518.2.2 - a0_2)))).bind fun t529 => (some t529)) else (none))) else (if bt522.2.1 = 0 then (flt_format_narrow.j0 k bt522.1 bt522.2.2 (wrap64 ((wrap64 (bt522.2.1 - t525)) + t526)) (wrap64 (bt518.2.2 - a0_2)) true a0_0 a0_1 a0_2 bt518.1 bt518.2.1 bt518.2.2) else ((flt_format_top.f a0_0 a0_1 a0_2).bind fun t530 => (flt_format_narrow.j0 k bt522.1 bt522.2.2 (wrap64 ((wrap64 (bt522.2.1 - t525)) + t526)) (wrap64 (bt518.2.2 - a0_2)) (decide ((wrap64 ((wrap64 (bt522.2.1 - t525)) + t526)) ≥ t530)) a0_0 a0_1 a0_2 bt518.1 bt518.2.1 bt518.2.2))))))))
def flt_format_narrow.T3 : Bool × List (List Nat × List Nat) := (true, [([], []), ([], []), ([1], [1]), ([0, 2], [0, 2]), ([], []), ([4, 2], [4]), ([3, 5], [3, 5]), ([6, 5, 0, 1, 2, 3, 4, 5, 6], [6])])
def flt_format_narrow.B3 : List Nat := [0, 0, 2, 7, 0, 22, 63, 127]
theorem flt_format_narrow.tab3 : rtab .any (opsOf Tryd.f64 3) = flt_format_narrow.T3 := by kernel_rfl
theorem flt_format_narrow.bits3 : waitsOk flt_format_narrow.T3.2 flt_format_narrow.B3 = true := by kernel_rfl
def flt_format_narrow.T6 : Bool × List (List Nat × List Nat) := (true, [([], []), ([], []), ([], []), ([2], [2]), ([], []), ([], []), ([4, 5], [4, 5]), ([0, 1, 3, 6, 3], [0, 1, 3, 6]), ([7, 7, 0, 1, 2, 3, 4, 5, 6, 7], [7])])
def flt_format_narrow.B6 : List Nat := [0, 0, 0, 4, 0, 0, 48, 127, 255]
theorem flt_format_narrow.tab6 : rtab .any (opsOf Tryd.f64 6) = flt_format_narrow.T6 := by kernel_rfl
theorem flt_format_narrow.bits6 : waitsOk flt_format_narrow.T6.2 flt_format_narrow.B6 = true := by kernel_rfl
def flt_format_narrow.T10 : Bool × List (List Nat × List Nat) := (true, [([], []), ([], []), ([], []), ([], []), ([], []), ([3, 4], [3, 4]), ([0, 1, 2, 5], [0, 1, 2, 5]), ([6, 6, 0, 1, 2, 3, 4, 5, 6], [6])])
def flt_format_narrow.B10 : List Nat := [0, 0, 0, 0, 0, 24, 63, 127]
theorem flt_format_narrow.tab10 : rtab .any (opsOf Tryd.f64 10) = flt_format_narrow.T10 := by kernel_rfl
theorem flt_format_narrow.bits10 : waitsOk flt_format_narrow.T10.2 flt_format_narrow.B10 = true := by kernel_rfl
def flt_format_narrow.T11 : Bool × List (List Nat × List Nat) := (true, [([], []), ([], []), ([], []), ([2], [2]), ([3], [3]), ([], []), ([4, 5], [4, 5]), ([], []), ([7], [7]), ([], []), ([8, 9], [8, 9]), ([10], [10]), ([6, 11], [6, 11]), ([0, 1, 12], [0, 1, 12]), ([13, 13, 0, 1, 2, 3, 4, 5, 6, 7, 8, 9, 10, 11, 12, 13], [13])])
def flt_format_narrow.B11 : List Nat := [0, 0, 0, 4, 12, 0, 60, 0, 128, 0, 896, 1920, 4092, 8191, 16383]
theorem flt_format_narrow.tab11 : rtab .any (opsOf Tryd.f64 11) = flt_format_narrow.T11 := by kernel_rfl
theorem flt_format_narrow.bits11 : waitsOk flt_format_narrow.T11.2 flt_format_narrow.B11 = true := by kernel_rfl
set_option maxHeartbeats 8000000 in
set_option maxRecDepth 100000 in
theorem flt_format_narrow.calls (k : Nat) (a0_0 : Int) (a0_1 : Int) (a0_2 : Int) (a1 : Int) (r : Int) (w : World) (h : flt_format_narrow.f k a0_0 a0_1 a0_2 a1 = some r) :
    Calls Tryd.prog 64 #[.agg #[.int .i64 a0_0, .int .i64 a0_1, .int .i64 a0_2], .int .u64 a1] w fun e w' => e = .returned (.int .u64 r) ∧ Below w.heap.size w w' := by
  have hu84 := Tryd.underlying84
  have HB := Aside0.mk (Below.refl w.heap.size w)
  have H : ((flt_wide.f).bind fun bt518 => ((flt_format_parts.f bt518.1 bt518.2.1 bt518.2.2 a1).bind fun bt522 => ((flt_format_bias.f bt518.1 bt518.2.1 bt518.2.2).bind fun t525 => ((flt_format_bias.f a0_0 a0_1 a0_2).bind fun t526 => ((flt_format_top.f bt518.1 bt518.2.1 bt518.2.2).bind fun t527 => (if bt522.2.1 = t527 then ((flt_format_top.f a0_0 a0_1 a0_2).bind fun t528 => (if 0 ≤ (wrap64 (bt518.2.2 - a0_2)) then ((flt_format_join.f a0_0 a0_1 a0_2 bt522.1 t528 (shr .u64 bt522.2.2 (wrap64 (bt518.2.2 - a0_2)))).bind fun t529 => (some t529)) else (none))) else (if bt522.2.1 = 0 then (flt_format_narrow.j0 k bt522.1 bt522.2.2 (wrap64 ((wrap64 (bt522.2.1 - t525)) + t526)) (wrap64 (bt518.2.2 - a0_2)) true a0_0 a0_1 a0_2 bt518.1 bt518.2.1 bt518.2.2) else ((flt_format_top.f a0_0 a0_1 a0_2).bind fun t530 => (flt_format_narrow.j0 k bt522.1 bt522.2.2 (wrap64 ((wrap64 (bt522.2.1 - t525)) + t526)) (wrap64 (bt518.2.2 - a0_2)) (decide ((wrap64 ((wrap64 (bt522.2.1 - t525)) + t526)) ≥ t530)) a0_0 a0_1 a0_2 bt518.1 bt518.2.1 bt518.2.2))))))))) = some r := h
  clear h
  replace H := Option.bind_eq_some_iff.mp H
  obtain ⟨⟨t518, t519, t520⟩, A30, H⟩ := H
  replace H : ((flt_format_parts.f t518 t519 t520 a1).bind fun bt522 => ((flt_format_bias.f t518 t519 t520).bind fun t525 => ((flt_format_bias.f a0_0 a0_1 a0_2).bind fun t526 => ((flt_format_top.f t518 t519 t520).bind fun t527 => (if bt522.2.1 = t527 then ((flt_format_top.f a0_0 a0_1 a0_2).bind fun t528 => (if 0 ≤ (wrap64 (t520 - a0_2)) then ((flt_format_join.f a0_0 a0_1 a0_2 bt522.1 t528 (shr .u64 bt522.2.2 (wrap64 (t520 - a0_2)))).bind fun t529 => (some t529)) else (none))) else (if bt522.2.1 = 0 then (flt_format_narrow.j0 k bt522.1 bt522.2.2 (wrap64 ((wrap64 (bt522.2.1 - t525)) + t526)) (wrap64 (t520 - a0_2)) true a0_0 a0_1 a0_2 t518 t519 t520) else ((flt_format_top.f a0_0 a0_1 a0_2).bind fun t530 => (flt_format_narrow.j0 k bt522.1 bt522.2.2 (wrap64 ((wrap64 (bt522.2.1 - t525)) + t526)) (wrap64 (t520 - a0_2)) (decide ((wrap64 ((wrap64 (bt522.2.1 - t525)) + t526)) ≥ t530)) a0_0 a0_1 a0_2 t518 t519 t520)))))))) = some r := H
  have A3 := Aside0.mk A30
  clear A30
  replace H := Option.bind_eq_some_iff.mp H
  obtain ⟨⟨t522, t523, t524⟩, A40, H⟩ := H
  replace H : ((flt_format_bias.f t518 t519 t520).bind fun t525 => ((flt_format_bias.f a0_0 a0_1 a0_2).bind fun t526 => ((flt_format_top.f t518 t519 t520).bind fun t527 => (if t523 = t527 then ((flt_format_top.f a0_0 a0_1 a0_2).bind fun t528 => (if 0 ≤ (wrap64 (t520 - a0_2)) then ((flt_format_join.f a0_0 a0_1 a0_2 t522 t528 (shr .u64 t524 (wrap64 (t520 - a0_2)))).bind fun t529 => (some t529)) else (none))) else (if t523 = 0 then (flt_format_narrow.j0 k t522 t524 (wrap64 ((wrap64 (t523 - t525)) + t526)) (wrap64 (t520 - a0_2)) true a0_0 a0_1 a0_2 t518 t519 t520) else ((flt_format_top.f a0_0 a0_1 a0_2).bind fun t530 => (flt_format_narrow.j0 k t522 t524 (wrap64 ((wrap64 (t523 - t525)) + t526)) (wrap64 (t520 - a0_2)) (decide ((wrap64 ((wrap64 (t523 - t525)) + t526)) ≥ t530)) a0_0 a0_1 a0_2 t518 t519 t520))))))) = some r := H
  have A4 := Aside0.mk A40
  clear A40
  replace H := Option.bind_eq_some_iff.mp H
  obtain ⟨t525, A50, H⟩ := H
  replace H : ((flt_format_bias.f a0_0 a0_1 a0_2).bind fun t526 => ((flt_format_top.f t518 t519 t520).bind fun t527 => (if t523 = t527 then ((flt_format_top.f a0_0 a0_1 a0_2).bind fun t528 => (if 0 ≤ (wrap64 (t520 - a0_2)) then ((flt_format_join.f a0_0 a0_1 a0_2 t522 t528 (shr .u64 t524 (wrap64 (t520 - a0_2)))).bind fun t529 => (some t529)) else (none))) else (if t523 = 0 then (flt_format_narrow.j0 k t522 t524 (wrap64 ((wrap64 (t523 - t525)) + t526)) (wrap64 (t520 - a0_2)) true a0_0 a0_1 a0_2 t518 t519 t520) else ((flt_format_top.f a0_0 a0_1 a0_2).bind fun t530 => (flt_format_narrow.j0 k t522 t524 (wrap64 ((wrap64 (t523 - t525)) + t526)) (wrap64 (t520 - a0_2)) (decide ((wrap64 ((wrap64 (t523 - t525)) + t526)) ≥ t530)) a0_0 a0_1 a0_2 t518 t519 t520)))))) = some r := H
  have A5 := Aside0.mk A50
  clear A50
  replace H := Option.bind_eq_some_iff.mp H
  obtain ⟨t526, A60, H⟩ := H
  replace H : ((flt_format_top.f t518 t519 t520).bind fun t527 => (if t523 = t527 then ((flt_format_top.f a0_0 a0_1 a0_2).bind fun t528 => (if 0 ≤ (wrap64 (t520 - a0_2)) then ((flt_format_join.f a0_0 a0_1 a0_2 t522 t528 (shr .u64 t524 (wrap64 (t520 - a0_2)))).bind fun t529 => (some t529)) else (none))) else (if t523 = 0 then (flt_format_narrow.j0 k t522 t524 (wrap64 ((wrap64 (t523 - t525)) + t526)) (wrap64 (t520 - a0_2)) true a0_0 a0_1 a0_2 t518 t519 t520) else ((flt_format_top.f a0_0 a0_1 a0_2).bind fun t530 => (flt_format_narrow.j0 k t522 t524 (wrap64 ((wrap64 (t523 - t525)) + t526)) (wrap64 (t520 - a0_2)) (decide ((wrap64 ((wrap64 (t523 - t525)) + t526)) ≥ t530)) a0_0 a0_1 a0_2 t518 t519 t520))))) = some r := H
  have A6 := Aside0.mk A60
  clear A60
  replace H := Option.bind_eq_some_iff.mp H
  obtain ⟨t527, A70, H⟩ := H
  replace H : (if t523 = t527 then ((flt_format_top.f a0_0 a0_1 a0_2).bind fun t528 => (if 0 ≤ (wrap64 (t520 - a0_2)) then ((flt_format_join.f a0_0 a0_1 a0_2 t522 t528 (shr .u64 t524 (wrap64 (t520 - a0_2)))).bind fun t529 => (some t529)) else (none))) else (if t523 = 0 then (flt_format_narrow.j0 k t522 t524 (wrap64 ((wrap64 (t523 - t525)) + t526)) (wrap64 (t520 - a0_2)) true a0_0 a0_1 a0_2 t518 t519 t520) else ((flt_format_top.f a0_0 a0_1 a0_2).bind fun t530 => (flt_format_narrow.j0 k t522 t524 (wrap64 ((wrap64 (t523 - t525)) + t526)) (wrap64 (t520 - a0_2)) (decide ((wrap64 ((wrap64 (t523 - t525)) + t526)) ≥ t530)) a0_0 a0_1 a0_2 t518 t519 t520)))) = some r := H
  have A7 := Aside0.mk A70
  clear A70
  by_cases c8 : t523 = t527
  · rw [if_pos c8] at H
    have c8b0 : (t523 == t527) = true := beq_iff_eq.mpr c8
    have c8b1 : (t523 != t527) = false := bne_eq_false_iff_eq.mpr c8
    clear c8
    replace H := Option.bind_eq_some_iff.mp H
    obtain ⟨t528, A90, H⟩ := H
    replace H : (if 0 ≤ (wrap64 (t520 - a0_2)) then ((flt_format_join.f a0_0 a0_1 a0_2 t522 t528 (shr .u64 t524 (wrap64 (t520 - a0_2)))).bind fun t529 => (some t529)) else (none)) = some r := H
    have A9 := Aside0.mk A90
    clear A90
    obtain ⟨ji10, hji10⟩ : ∃ j_ : Int, (wrap64 (t520 - a0_2)) = j_ := ⟨_, rfl⟩
    replace H : (if 0 ≤ (ji10) then ((flt_format_join.f a0_0 a0_1 a0_2 t522 t528 (shr .u64 t524 (ji10))).bind fun t529 => (some t529)) else (none)) = some r := by first | (rw [hji10] at H; exact H) | (simp only [hji10] at H ⊢; exact H)
    (try rw [hji10] at A3)
    (try rw [hji10] at A4)
    (try rw [hji10] at A5)
    (try rw [hji10] at A6)
    (try rw [hji10] at A7)
    (try rw [hji10] at A9)
    have hji10w : (IntKind.i64.wrap (t520 - a0_2)) = ji10 := (i64_w _).trans hji10
    by_cases c11 : 0 ≤ (ji10)
    · rw [if_pos c11] at H
      have c11b0 := eq_true c11
      have c11b1 : decide (0 ≤ (ji10)) = true := decide_eq_true c11
      clear c11
      obtain ⟨ji12, hji12⟩ : ∃ j_ : Int, (shr .u64 t524 (ji10)) = j_ := ⟨_, rfl⟩
      replace H : ((flt_format_join.f a0_0 a0_1 a0_2 t522 t528 (ji12)).bind fun t529 => (some t529)) = some r := by first | (rw [hji12] at H; exact H) | (simp only [hji12] at H ⊢; exact H)
      (try rw [hji12] at A3)
      (try rw [hji12] at A4)
      (try rw [hji12] at A5)
      (try rw [hji12] at A6)
      (try rw [hji12] at A7)
      (try rw [hji12] at A9)
      have hji12_ : (t524 / 2 ^ min (ji10).toNat 64) = ji12 := hji12
      have hji12z : (ji10) ≤ 64 → (t524 / 2 ^ (ji10).toNat) = ji12 := shr_small hji12
      replace H := Option.bind_eq_some_iff.mp H
      obtain ⟨t529, A130, H⟩ := H
      replace H : (some t529) = some r := H
      have A13 := Aside0.mk A130
      clear A130
      obtain rfl := Option.some.inj H
      go_enter Tryd.func64, Tryd.ntmps64
      try go_wp2_with (first | ((with_reducible refine gate_dst (N := 2) rfl ?_); refine box_event ?hg (N := 2) ?hd (cs := #[.int .i64 a0_0, .int .i64 a0_1, .int .i64 a0_2]) (t := 84) ?hr ?_; (case hd => rfl); (case hg => rfl); (case hr => first | (go_simp; done) | (go_simp; rfl)); intro gb517 hg w14 hbox hb; have n0_ := Aside0.mk (below_step (by repeat (first | (with_reducible first | exact HB.out | apply below_alloc | apply pw_below_drewN | apply below_drew1) | exact HB.out)) hb); have n1_ := Aside0.mk (hbox); have n2_ := Aside0.mk ((by rw [hg]; exact (below_size (by repeat (first | (with_reducible first | exact HB.out | apply below_alloc | apply pw_below_drewN | apply below_drew1) | exact HB.out))) : w.heap.size ≤ gb517)); have n3_ := Aside0.mk ((by rw [hg]; exact (below_size (by repeat (first | (with_reducible first | exact HB.out | apply below_alloc | apply pw_below_drewN | apply below_drew1) | exact HB.out))) : w.heap.size ≤ gb517)); clear HB; have HB := n0_; have BK517 := n1_; have GW517 := n2_; have GE517 := n3_; clear n0_ n1_ n2_ n3_; clear hb hbox hg) | ((with_reducible refine gate_callee (f := 65) rfl ?_); refine goesL_ (some 11) rfl rfl Tryd.func65 (by kernel_rfl) rfl #[] rfl (by (try simp only [List.map_toArray, List.map_cons, List.map_nil]); first | done | rfl | (simp only [List.length_drop, List.length_take]; rfl)) ?_; (with_reducible refine (flt_wide.calls  t518 t519 t520 _ A3.out).mono ?_); rintro e w15 ⟨rfl, hb⟩; refine ⟨_, rfl, ?_⟩; have n0_ := Aside0.mk (blk_below (g := gb517) (o := .cells #[.int .i64 a0_0, .int .i64 a0_1, .int .i64 a0_2] 84 (0, 0)) (by (with_reducible repeat (first | refine blk_drewN ?_ _ | refine blk_drew ?_ | refine blk_alloc ?_ _)); exact BK517.out) hb); have n1_ := Aside0.mk (below_step (by repeat (first | (with_reducible first | exact HB.out | apply below_alloc | apply pw_below_drewN | apply below_drew1 | refine below_set ?_ GE517.out) | exact HB.out)) hb); clear BK517; clear HB; have BK517 := n0_; have HB := n1_; clear n0_ n1_; (try clear hb); (try clear hb2); (try clear hk); (try clear hi)) | ((with_reducible refine gate_dst (N := 5) rfl ?_); refine box_event ?hg (N := 5) ?hd (cs := #[.int .i64 0, .int .i64 0, .int .i64 0]) (t := 84) ?hr ?_; (case hd => rfl); (case hg => rfl); (case hr => first | (go_simp; done) | (go_simp; rfl)); intro gb521 hg w16 hbox hb; have n0_ := Aside0.mk (blk_below (g := gb517) (o := .cells #[.int .i64 a0_0, .int .i64 a0_1, .int .i64 a0_2] 84 (0, 0)) (by (with_reducible repeat (first | refine blk_drewN ?_ _ | refine blk_drew ?_ | refine blk_alloc ?_ _)); exact BK517.out) hb); have n1_ := Aside0.mk (below_step (by repeat (first | (with_reducible first | exact HB.out | apply below_alloc | apply pw_below_drewN | apply below_drew1 | refine below_set ?_ GE517.out) | exact HB.out)) hb); have n2_ := Aside0.mk (hbox); have n3_ := Aside0.mk ((by rw [hg]; exact (below_size (by repeat (first | (with_reducible first | exact HB.out | apply below_alloc | apply pw_below_drewN | apply below_drew1 | refine below_set ?_ GE517.out) | exact HB.out))) : w.heap.size ≤ gb521)); have n4_ := Aside0.mk ((by rw [hg]; exact (below_size (by repeat (first | (with_reducible first | exact HB.out | apply below_alloc | apply pw_below_drewN | apply below_drew1 | refine below_set ?_ GE517.out) | exact HB.out))) : w.heap.size ≤ gb521)); have n5_ := Aside0.mk ((by rw [hg]; exact Nat.ne_of_lt (blk_lt (g := gb517) (o := .cells #[.int .i64 a0_0, .int .i64 a0_1, .int .i64 a0_2] 84 (0, 0)) (by (with_reducible repeat (first | refine blk_drewN ?_ _ | refine blk_drew ?_ | refine blk_alloc ?_ _)); exact BK517.out)) : gb517 ≠ gb521)); have n6_ := Aside0.mk ((by rw [hg]; exact Nat.ne_of_gt (blk_lt (g := gb517) (o := .cells #[.int .i64 a0_0, .int .i64 a0_1, .int .i64 a0_2] 84 (0, 0)) (by (with_reducible repeat (first | refine blk_drewN ?_ _ | refine blk_drew ?_ | refine blk_alloc ?_ _)); exact BK517.out)) : gb521 ≠ gb517)); clear BK517; clear HB; have BK517 := n0_; have HB := n1_; have BK521 := n2_; have GW521 := n3_; have GE521 := n4_; have NB517_521 := n5_; have NB521_517 := n6_; clear n0_ n1_ n2_ n3_ n4_ n5_ n6_; clear hb hbox hg; have hnb17 := NB521_517.out; have hnc17 := NB517_521.out; have hcz18_0 : w16.cell? ⟨gb521, 0, none⟩ = some (.int .i64 0) := (blk_cell BK521.out 0).trans rfl; have hcz18_1 : w16.cell? ⟨gb521, 1, none⟩ = some (.int .i64 0) := (blk_cell BK521.out 1).trans rfl; have hcz18_2 : w16.cell? ⟨gb521, 2, none⟩ = some (.int .i64 0) := (blk_cell BK521.out 2).trans rfl; have hfz18_0 := blk_frozen BK521.out 0; have hfz18_1 := blk_frozen BK521.out 1; have hfz18_2 := blk_frozen BK521.out 2) | ((with_reducible refine gate_callee (f := 67) rfl ?_); refine goesL_ (some 15) rfl rfl Tryd.func67 (by kernel_rfl) rfl #[.agg #[.int .i64 t518, .int .i64 t519, .int .i64 t520], .int .u64 a1] rfl (by (try simp only [List.map_toArray, List.map_cons, List.map_nil]); first | done | rfl | (simp only [List.length_drop, List.length_take]; rfl)) ?_; (with_reducible refine (flt_format_parts.calls t518 t519 t520 a1 t522 t523 t524 _ A4.out).mono ?_); rintro e w19 ⟨rfl, hb⟩; refine ⟨_, rfl, ?_⟩; have n0_ := Aside0.mk (blk_below (g := gb517) (o := .cells #[.int .i64 a0_0, .int .i64 a0_1, .int .i64 a0_2] 84 (0, 0)) (by (with_reducible repeat (first | refine blk_drewN ?_ _ | refine blk_drew ?_ | refine blk_alloc ?_ _)); refine blk_far ?_ NB517_521.out _; (with_reducible repeat (first | refine blk_drewN ?_ _ | refine blk_drew ?_ | refine blk_alloc ?_ _)); refine blk_far ?_ NB517_521.out _; (with_reducible repeat (first | refine blk_drewN ?_ _ | refine blk_drew ?_ | refine blk_alloc ?_ _)); refine blk_far ?_ NB517_521.out _; (with_reducible repeat (first | refine blk_drewN ?_ _ | refine blk_drew ?_ | refine blk_alloc ?_ _)); exact BK517.out) hb); have n1_ := Aside0.mk (blk_below (g := gb521) (o := .cells #[.int .i64 t518, .int .i64 t519, .int .i64 t520] 84 (0, 0)) (by (with_reducible repeat (first | refine blk_drewN ?_ _ | refine blk_drew ?_ | refine blk_alloc ?_ _)); refine blk_put (cs := #[.int .i64 t518, .int .i64 t519, .int .i64 0]) ?_ 2 _ rfl; (with_reducible repeat (first | refine blk_drewN ?_ _ | refine blk_drew ?_ | refine blk_alloc ?_ _)); refine blk_put (cs := #[.int .i64 t518, .int .i64 0, .int .i64 0]) ?_ 1 _ rfl; (with_reducible repeat (first | refine blk_drewN ?_ _ | refine blk_drew ?_ | refine blk_alloc ?_ _)); refine blk_put (cs := #[.int .i64 0, .int .i64 0, .int .i64 0]) ?_ 0 _ rfl; (with_reducible repeat (first | refine blk_drewN ?_ _ | refine blk_drew ?_ | refine blk_alloc ?_ _)); exact BK521.out) hb); have n2_ := Aside0.mk (below_step (by repeat (first | (with_reducible first | exact HB.out | apply below_alloc | apply pw_below_drewN | apply below_drew1 | refine below_set ?_ GE517.out | refine below_set ?_ GE521.out) | exact HB.out)) hb); clear BK517; clear BK521; clear HB; have BK517 := n0_; have BK521 := n1_; have HB := n2_; clear n0_ n1_ n2_; (try clear hb); (try clear hb2); (try clear hk); (try clear hi)))
      have n0_ := Aside0.mk (blk_drew BK517.out)
      have n1_ := Aside0.mk (blk_drew BK521.out)
      have n2_ := Aside0.mk (below_drew1 HB.out)
      clear BK517
      clear BK521
      clear HB
      have BK517 := n0_
      have BK521 := n1_
      have HB := n2_
      clear n0_ n1_ n2_
      refine start_ (n := 8) (S := fun w' => w'.cell? ⟨gb521, 0, none⟩ = some (.int .i64 t518) ∧ w'.cell? ⟨gb521, 1, none⟩ = some (.int .i64 t519) ∧ w'.cell? ⟨gb521, 2, none⟩ = some (.int .i64 t520) ∧ w'.cell? ⟨gb517, 0, none⟩ = some (.int .i64 a0_0) ∧ w'.cell? ⟨gb517, 1, none⟩ = some (.int .i64 a0_1) ∧ w'.cell? ⟨gb517, 2, none⟩ = some (.int .i64 a0_2)) (ds := []) #[false, false, false, false, false, false, false, false] (by kernel_rfl) rfl rfl ⟨(blk_cell BK521.out 0).trans rfl, (blk_cell BK521.out 1).trans rfl, (blk_cell BK521.out 2).trans rfl, (blk_cell BK517.out 0).trans rfl, (blk_cell BK517.out 1).trans rfl, (blk_cell BK517.out 2).trans rfl⟩ (fun hHeld => ?_); refine with_tabW flt_format_narrow.tab3 flt_format_narrow.bits3 (fun HT_ HW_ => ?_)
      generalize w19.drew = w20 at BK517 BK521 HB hHeld ⊢
      refine pure_ (i := 0) (N := some 19) (v := ?_) (a' := ?_) #[true, false, false, false, false, false, false, false] rfl rfl (any_of HT_.out (by kernel_rfl)) (fun _ _ _ h => h) (Or.inl ⟨by rfl, ?_⟩) ?_ ?_
      rotate_left
      · intro w'
        go_simp
        with_reducible rfl
      rotate_left
      · simp only [Act.put, List.setIfInBounds_toArray, List.set_cons_zero, List.set_cons_succ, i64_w, i32_w]
        rfl
      refine take_ (i := 1) (N := some 20) (v := ?_) (a' := ?_) #[true, true, false, false, false, false, false, false] rfl rfl (take_ofW HT_.out HW_.out (by kernel_rfl)) (fun _ _ _ h => h) (Or.inl ⟨by rfl, ?_⟩) hHeld ?_ ?_
      rotate_left
      · rintro w' ⟨s0, s1, s2, s3, s4, s5⟩
        go_simp
        with_reducible rfl
      rotate_left
      · simp only [Act.put, List.setIfInBounds_toArray, List.set_cons_zero, List.set_cons_succ, i64_w, i32_w]
        rfl
      refine take_ (i := 4) (N := some 23) (v := ?_) (a' := ?_) #[true, true, false, false, true, false, false, false] rfl rfl (take_ofW HT_.out HW_.out (by kernel_rfl)) (fun _ _ _ h => h) (Or.inl ⟨by rfl, ?_⟩) hHeld ?_ ?_
      rotate_left
      · rintro w' ⟨s0, s1, s2, s3, s4, s5⟩
        go_simp
        with_reducible rfl
      rotate_left
      · simp only [Act.put, List.setIfInBounds_toArray, List.set_cons_zero, List.set_cons_succ, i64_w, i32_w]
        rfl
      refine one_ (i := 2) (N := some 21) #[true, true, true, false, true, false, false, false] rfl rfl (one_of HT_.out (by kernel_rfl)) (by decide) (fun K hK => ?_)
      refine goes_ Tryd.func68 (by kernel_rfl) rfl #[.agg #[.int .i64 t518, .int .i64 t519, .int .i64 t520]] (by rfl) rfl rfl (by (try simp only [List.map_toArray, List.map_cons, List.map_nil]); first | done | rfl | (simp only [List.length_drop, List.length_take]; rfl)) ?_
      with_reducible refine (flt_format_bias.calls t518 t519 t520 t525 _ A5.out).mono ?_
      rintro e w21 ⟨rfl, hb⟩
      refine ⟨_, rfl, ?_⟩
      have n0_ := Aside0.mk (blk_below (g := gb517) (o := .cells #[.int .i64 a0_0, .int .i64 a0_1, .int .i64 a0_2] 84 (0, 0)) (by (with_reducible repeat (first | refine blk_drewN ?_ _ | refine blk_drew ?_ | refine blk_alloc ?_ _)); exact BK517.out) hb)
      have n1_ := Aside0.mk (blk_below (g := gb521) (o := .cells #[.int .i64 t518, .int .i64 t519, .int .i64 t520] 84 (0, 0)) (by (with_reducible repeat (first | refine blk_drewN ?_ _ | refine blk_drew ?_ | refine blk_alloc ?_ _)); exact BK521.out) hb)
      have n2_ := Aside0.mk (below_step (by repeat (first | (with_reducible first | exact HB.out | apply below_alloc | apply pw_below_drewN | apply below_drew1 | refine below_set ?_ GE517.out | refine below_set ?_ GE521.out) | exact HB.out)) hb)
      clear BK517
      clear BK521
      clear HB
      have BK517 := n0_
      have BK521 := n1_
      have HB := n2_
      clear n0_ n1_ n2_
      (try clear hb)
      (try clear hb2)
      (try clear hk)
      (try clear hi)
      refine hK.out _ _ ⟨(blk_cell BK521.out 0).trans rfl, (blk_cell BK521.out 1).trans rfl, (blk_cell BK521.out 2).trans rfl, (blk_cell BK517.out 0).trans rfl, (blk_cell BK517.out 1).trans rfl, (blk_cell BK517.out 2).trans rfl⟩ (fun hHeld => ?_)
      clear hK K
      refine norm_ (a' := ?_) ?_ ?_
      rotate_left
      · show Act.put _ (some 21) _ = _
        simp only [Act.put, List.setIfInBounds_toArray, List.set_cons_zero, List.set_cons_succ, i64_w, i32_w]
        rfl
      refine pure_ (i := 3) (N := some 22) (v := ?_) (a' := ?_) #[true, true, true, true, true, false, false, false] rfl rfl (any_of HT_.out (by kernel_rfl)) (fun _ _ _ h => h) (Or.inl ⟨by rfl, ?_⟩) ?_ ?_
      rotate_left
      · intro w'
        go_simp
        with_reducible rfl
      rotate_left
      · simp only [Act.put, List.setIfInBounds_toArray, List.set_cons_zero, List.set_cons_succ, i64_w, i32_w]
        rfl
      refine one_ (i := 5) (N := some 24) #[true, true, true, true, true, true, false, false] rfl rfl (one_of HT_.out (by kernel_rfl)) (by decide) (fun K hK => ?_)
      refine goes_ Tryd.func68 (by kernel_rfl) rfl #[.agg #[.int .i64 a0_0, .int .i64 a0_1, .int .i64 a0_2]] (by rfl) rfl rfl (by (try simp only [List.map_toArray, List.map_cons, List.map_nil]); first | done | rfl | (simp only [List.length_drop, List.length_take]; rfl)) ?_
      with_reducible refine (flt_format_bias.calls a0_0 a0_1 a0_2 t526 _ A6.out).mono ?_
      rintro e w22 ⟨rfl, hb⟩
      refine ⟨_, rfl, ?_⟩
      have n0_ := Aside0.mk (blk_below (g := gb517) (o := .cells #[.int .i64 a0_0, .int .i64 a0_1, .int .i64 a0_2] 84 (0, 0)) (by (with_reducible repeat (first | refine blk_drewN ?_ _ | refine blk_drew ?_ | refine blk_alloc ?_ _)); exact BK517.out) hb)
      have n1_ := Aside0.mk (blk_below (g := gb521) (o := .cells #[.int .i64 t518, .int .i64 t519, .int .i64 t520] 84 (0, 0)) (by (with_reducible repeat (first | refine blk_drewN ?_ _ | refine blk_drew ?_ | refine blk_alloc ?_ _)); exact BK521.out) hb)
      have n2_ := Aside0.mk (below_step (by repeat (first | (with_reducible first | exact HB.out | apply below_alloc | apply pw_below_drewN | apply below_drew1 | refine below_set ?_ GE517.out | refine below_set ?_ GE521.out) | exact HB.out)) hb)
      clear BK517
      clear BK521
      clear HB
      have BK517 := n0_
      have BK521 := n1_
      have HB := n2_
      clear n0_ n1_ n2_
      (try clear hb)
      (try clear hb2)
      (try clear hk)
      (try clear hi)
      refine hK.out _ _ ⟨(blk_cell BK521.out 0).trans rfl, (blk_cell BK521.out 1).trans rfl, (blk_cell BK521.out 2).trans rfl, (blk_cell BK517.out 0).trans rfl, (blk_cell BK517.out 1).trans rfl, (blk_cell BK517.out 2).trans rfl⟩ (fun hHeld => ?_)
      clear hK K
      refine norm_ (a' := ?_) ?_ ?_
      rotate_left
      · show Act.put _ (some 24) _ = _
        simp only [Act.put, List.setIfInBounds_toArray, List.set_cons_zero, List.set_cons_succ, i64_w, i32_w]
        rfl
      refine pure_ (i := 6) (N := some 25) (v := ?_) (a' := ?_) #[true, true, true, true, true, true, true, false] rfl rfl (any_of HT_.out (by kernel_rfl)) (fun _ _ _ h => h) (Or.inl ⟨by rfl, ?_⟩) ?_ ?_
      rotate_left
      · intro w'
        go_simp
        with_reducible rfl
      rotate_left
      · simp only [Act.put, List.setIfInBounds_toArray, List.set_cons_zero, List.set_cons_succ, i64_w, i32_w]
        rfl
      refine pure_ (i := 7) (N := some 9) (v := ?_) (a' := ?_) #[true, true, true, true, true, true, true, true] rfl rfl (any_of HT_.out (by kernel_rfl)) (fun _ _ _ h => h) (Or.inl ⟨by rfl, ?_⟩) ?_ ?_
      rotate_left
      · intro w'
        go_simp
        with_reducible rfl
      rotate_left
      · simp only [Act.put, List.setIfInBounds_toArray, List.set_cons_zero, List.set_cons_succ, i64_w, i32_w]
        rfl
      refine done_ (done_of HT_.out (by kernel_rfl)) ?_
      have hcz23_0 : w22.cell? ⟨gb521, 0, none⟩ = some (.int .i64 t518) := (blk_cell BK521.out 0).trans rfl
      have hcz23_1 : w22.cell? ⟨gb521, 1, none⟩ = some (.int .i64 t519) := (blk_cell BK521.out 1).trans rfl
      have hcz23_2 : w22.cell? ⟨gb521, 2, none⟩ = some (.int .i64 t520) := (blk_cell BK521.out 2).trans rfl
      have hfz23_0 := blk_frozen BK521.out 0
      have hfz23_1 := blk_frozen BK521.out 1
      have hfz23_2 := blk_frozen BK521.out 2
      have hcz24_0 : w22.cell? ⟨gb517, 0, none⟩ = some (.int .i64 a0_0) := (blk_cell BK517.out 0).trans rfl
      have hcz24_1 : w22.cell? ⟨gb517, 1, none⟩ = some (.int .i64 a0_1) := (blk_cell BK517.out 1).trans rfl
      have hcz24_2 : w22.cell? ⟨gb517, 2, none⟩ = some (.int .i64 a0_2) := (blk_cell BK517.out 2).trans rfl
      have hfz24_0 := blk_frozen BK517.out 0
      have hfz24_1 := blk_frozen BK517.out 1
      have hfz24_2 := blk_frozen BK517.out 2
      try go_wp2_with (first | ((with_reducible refine gate_callee (f := 73) rfl ?_); refine goesL_ (some 34) rfl rfl Tryd.func73 (by kernel_rfl) rfl #[.agg #[.int .i64 t518, .int .i64 t519, .int .i64 t520]] rfl (by (try simp only [List.map_toArray, List.map_cons, List.map_nil]); first | done | rfl | (simp only [List.length_drop, List.length_take]; rfl)) ?_; (with_reducible refine (flt_format_top.calls t518 t519 t520 t527 _ A7.out).mono ?_); rintro e w25 ⟨rfl, hb⟩; refine ⟨_, rfl, ?_⟩; have n0_ := Aside0.mk (blk_below (g := gb517) (o := .cells #[.int .i64 a0_0, .int .i64 a0_1, .int .i64 a0_2] 84 (0, 0)) (by (with_reducible repeat (first | refine blk_drewN ?_ _ | refine blk_drew ?_ | refine blk_alloc ?_ _)); exact BK517.out) hb); have n1_ := Aside0.mk (blk_below (g := gb521) (o := .cells #[.int .i64 t518, .int .i64 t519, .int .i64 t520] 84 (0, 0)) (by (with_reducible repeat (first | refine blk_drewN ?_ _ | refine blk_drew ?_ | refine blk_alloc ?_ _)); exact BK521.out) hb); have n2_ := Aside0.mk (below_step (by repeat (first | (with_reducible first | exact HB.out | apply below_alloc | apply pw_below_drewN | apply below_drew1 | refine below_set ?_ GE517.out | refine below_set ?_ GE521.out) | exact HB.out)) hb); clear BK517; clear BK521; clear HB; have BK517 := n0_; have BK521 := n1_; have HB := n2_; clear n0_ n1_ n2_; (try clear hb); (try clear hb2); (try clear hk); (try clear hi)))
      have n0_ := Aside0.mk (blk_drew BK517.out)
      have n1_ := Aside0.mk (blk_drew BK521.out)
      have n2_ := Aside0.mk (below_drew1 HB.out)
      clear BK517
      clear BK521
      clear HB
      have BK517 := n0_
      have BK521 := n1_
      have HB := n2_
      clear n0_ n1_ n2_
      refine start_ (n := 9) (S := fun w' => w'.cell? ⟨gb517, 0, none⟩ = some (.int .i64 a0_0) ∧ w'.cell? ⟨gb517, 1, none⟩ = some (.int .i64 a0_1) ∧ w'.cell? ⟨gb517, 2, none⟩ = some (.int .i64 a0_2)) (ds := []) #[false, false, false, false, false, false, false, false, false] (by kernel_rfl) rfl rfl ⟨(blk_cell BK517.out 0).trans rfl, (blk_cell BK517.out 1).trans rfl, (blk_cell BK517.out 2).trans rfl⟩ (fun hHeld => ?_); refine with_tabW flt_format_narrow.tab6 flt_format_narrow.bits6 (fun HT_ HW_ => ?_)
      generalize w25.drew = w26 at BK517 BK521 HB hHeld ⊢
      refine pure_ (i := 1) (N := some 37) (v := ?_) (a' := ?_) #[false, true, false, false, false, false, false, false, false] rfl rfl (any_of HT_.out (by kernel_rfl)) (fun _ _ _ h => h) (Or.inl ⟨by rfl, ?_⟩) ?_ ?_
      rotate_left
      · intro w'
        go_simp
        with_reducible rfl
      rotate_left
      · simp only [Act.put, List.setIfInBounds_toArray, List.set_cons_zero, List.set_cons_succ, i64_w, i32_w]
        rfl
      refine pure_ (i := 4) (N := some 40) (v := ?_) (a' := ?_) #[false, true, false, false, true, false, false, false, false] rfl rfl (any_of HT_.out (by kernel_rfl)) (fun _ _ _ h => h) (Or.inl ⟨by rfl, ?_⟩) ?_ ?_
      rotate_left
      · intro w'
        go_simp
        with_reducible rfl
      rotate_left
      · simp only [Act.put, List.setIfInBounds_toArray, List.set_cons_zero, List.set_cons_succ, i64_w, i32_w]
        rfl
      refine pure_ (i := 5) (N := some 41) (v := ?_) (a' := ?_) #[false, true, false, false, true, true, false, false, false] rfl rfl (any_of HT_.out (by kernel_rfl)) (fun _ _ _ h => h) (Or.inl ⟨by rfl, ?_⟩) ?_ ?_
      rotate_left
      · intro w'
        go_simp
        with_reducible rfl
      rotate_left
      · simp only [Act.put, List.setIfInBounds_toArray, List.set_cons_zero, List.set_cons_succ, i64_w, i32_w]
        rfl
      refine pure_ (i := 6) (N := some 42) (v := ?_) (a' := ?_) #[false, true, false, false, true, true, true, false, false] rfl rfl (any_of HT_.out (by kernel_rfl)) (fun _ _ _ h => h) (Or.inl ⟨by rfl, ?_⟩) ?_ ?_
      rotate_left
      · intro w'
        go_simp
        with_reducible rfl
      rotate_left
      · simp only [Act.put, List.setIfInBounds_toArray, List.set_cons_zero, List.set_cons_succ, i64_w, i32_w]
        rfl
      refine take_ (i := 0) (N := some 36) (v := ?_) (a' := ?_) #[true, true, false, false, true, true, true, false, false] rfl rfl (take_ofW HT_.out HW_.out (by kernel_rfl)) (fun _ _ _ h => h) (Or.inl ⟨by rfl, ?_⟩) hHeld ?_ ?_
      rotate_left
      · rintro w' ⟨s0, s1, s2⟩
        go_simp
        with_reducible rfl
      rotate_left
      · simp only [Act.put, List.setIfInBounds_toArray, List.set_cons_zero, List.set_cons_succ, i64_w, i32_w]
        rfl
      refine take_ (i := 2) (N := some 38) (v := ?_) (a' := ?_) #[true, true, true, false, true, true, true, false, false] rfl rfl (take_ofW HT_.out HW_.out (by kernel_rfl)) (fun _ _ _ h => h) (Or.inl ⟨by rfl, ?_⟩) hHeld ?_ ?_
      rotate_left
      · rintro w' ⟨s0, s1, s2⟩
        go_simp
        with_reducible rfl
      rotate_left
      · simp only [Act.put, List.setIfInBounds_toArray, List.set_cons_zero, List.set_cons_succ, i64_w, i32_w]
        rfl
      refine one_ (i := 3) (N := some 39) #[true, true, true, true, true, true, true, false, false] rfl rfl (one_of HT_.out (by kernel_rfl)) (by decide) (fun K hK => ?_)
      refine goes_ Tryd.func73 (by kernel_rfl) rfl #[.agg #[.int .i64 a0_0, .int .i64 a0_1, .int .i64 a0_2]] (by rfl) rfl rfl (by (try simp only [List.map_toArray, List.map_cons, List.map_nil]); first | done | rfl | (simp only [List.length_drop, List.length_take]; rfl)) ?_
      with_reducible refine (flt_format_top.calls a0_0 a0_1 a0_2 t528 _ A9.out).mono ?_
      rintro e w27 ⟨rfl, hb⟩
      refine ⟨_, rfl, ?_⟩
      have n0_ := Aside0.mk (blk_below (g := gb517) (o := .cells #[.int .i64 a0_0, .int .i64 a0_1, .int .i64 a0_2] 84 (0, 0)) (by (with_reducible repeat (first | refine blk_drewN ?_ _ | refine blk_drew ?_ | refine blk_alloc ?_ _)); exact BK517.out) hb)
      have n1_ := Aside0.mk (blk_below (g := gb521) (o := .cells #[.int .i64 t518, .int .i64 t519, .int .i64 t520] 84 (0, 0)) (by (with_reducible repeat (first | refine blk_drewN ?_ _ | refine blk_drew ?_ | refine blk_alloc ?_ _)); exact BK521.out) hb)
      have n2_ := Aside0.mk (below_step (by repeat (first | (with_reducible first | exact HB.out | apply below_alloc | apply pw_below_drewN | apply below_drew1 | refine below_set ?_ GE517.out | refine below_set ?_ GE521.out) | exact HB.out)) hb)
      clear BK517
      clear BK521
      clear HB
      have BK517 := n0_
      have BK521 := n1_
      have HB := n2_
      clear n0_ n1_ n2_
      (try clear hb)
      (try clear hb2)
      (try clear hk)
      (try clear hi)
      refine hK.out _ _ ⟨(blk_cell BK517.out 0).trans rfl, (blk_cell BK517.out 1).trans rfl, (blk_cell BK517.out 2).trans rfl⟩ (fun hHeld => ?_)
      clear hK K
      refine norm_ (a' := ?_) ?_ ?_
      rotate_left
      · show Act.put _ (some 39) _ = _
        simp only [Act.put, List.setIfInBounds_toArray, List.set_cons_zero, List.set_cons_succ, i64_w, i32_w]
        rfl
      refine one_ (i := 7) (N := some 43) #[true, true, true, true, true, true, true, true, false] rfl rfl (one_of HT_.out (by kernel_rfl)) (by decide) (fun K hK => ?_)
      refine goes_ Tryd.func107 (by kernel_rfl) rfl #[.agg #[.int .i64 a0_0, .int .i64 a0_1, .int .i64 a0_2], .int .u64 t522, .int .i64 t528, .int .u64 ji12] (by rfl) rfl rfl (by (try simp only [List.map_toArray, List.map_cons, List.map_nil]); first | done | (simp only [hji12]; rfl) | rfl | (simp only [List.length_drop, List.length_take]; rfl)) ?_
      with_reducible refine (flt_format_join.calls a0_0 a0_1 a0_2 t522 t528 ji12 t529 _ A13.out).mono ?_
      rintro e w28 ⟨rfl, hb⟩
      refine ⟨_, rfl, ?_⟩
      have n0_ := Aside0.mk (blk_below (g := gb517) (o := .cells #[.int .i64 a0_0, .int .i64 a0_1, .int .i64 a0_2] 84 (0, 0)) (by (with_reducible repeat (first | refine blk_drewN ?_ _ | refine blk_drew ?_ | refine blk_alloc ?_ _)); exact BK517.out) hb)
      have n1_ := Aside0.mk (blk_below (g := gb521) (o := .cells #[.int .i64 t518, .int .i64 t519, .int .i64 t520] 84 (0, 0)) (by (with_reducible repeat (first | refine blk_drewN ?_ _ | refine blk_drew ?_ | refine blk_alloc ?_ _)); exact BK521.out) hb)
      have n2_ := Aside0.mk (below_step (by repeat (first | (with_reducible first | exact HB.out | apply below_alloc | apply pw_below_drewN | apply below_drew1 | refine below_set ?_ GE517.out | refine below_set ?_ GE521.out) | exact HB.out)) hb)
      clear BK517
      clear BK521
      clear HB
      have BK517 := n0_
      have BK521 := n1_
      have HB := n2_
      clear n0_ n1_ n2_
      (try clear hb)
      (try clear hb2)
      (try clear hk)
      (try clear hi)
      refine hK.out _ _ ⟨(blk_cell BK517.out 0).trans rfl, (blk_cell BK517.out 1).trans rfl, (blk_cell BK517.out 2).trans rfl⟩ (fun hHeld => ?_)
      clear hK K
      refine norm_ (a' := ?_) ?_ ?_
      rotate_left
      · show Act.put _ (some 43) _ = _
        simp only [Act.put, List.setIfInBounds_toArray, List.set_cons_zero, List.set_cons_succ, i64_w, i32_w]
        rfl
      refine pure_ (i := 8) (N := some 4) (v := ?_) (a' := ?_) #[true, true, true, true, true, true, true, true, true] rfl rfl (any_of HT_.out (by kernel_rfl)) (fun _ _ _ h => h) (Or.inl ⟨by rfl, ?_⟩) ?_ ?_
      rotate_left
      · intro w'
        go_simp
        with_reducible rfl
      rotate_left
      · simp only [Act.put, List.setIfInBounds_toArray, List.set_cons_zero, List.set_cons_succ, i64_w, i32_w]
        rfl
      refine done_ (done_of HT_.out (by kernel_rfl)) ?_
      try go_wp2
      go_ret
      exact ⟨by first | rfl | (simp [errW_none, errW_some] <;> rfl) | (simp only [← hji10, ← hji12]; first | rfl | (simp [errW_none, errW_some] <;> rfl)) | (simp [*, errW_none, errW_some] <;> rfl), by repeat (first | (with_reducible first | exact HB.out | apply below_alloc | apply pw_below_drewN | apply below_drew1 | refine below_set ?_ GE517.out | refine below_set ?_ GE521.out) | exact HB.out)⟩
    · rw [if_neg c11] at H
      exact absurd H (by simp)
  · rw [if_neg c8] at H
    have c8b0 : (t523 == t527) = false := beq_eq_false_iff_ne.mpr c8
    have c8b1 : (t523 != t527) = true := bne_iff_ne.mpr c8
    have HC29 := Aside0.mk H
    clear H
    go_enter Tryd.func64, Tryd.ntmps64
    try go_wp2_with (first | ((with_reducible refine gate_dst (N := 2) rfl ?_); refine box_event ?hg (N := 2) ?hd (cs := #[.int .i64 a0_0, .int .i64 a0_1, .int .i64 a0_2]) (t := 84) ?hr ?_; (case hd => rfl); (case hg => rfl); (case hr => first | (go_simp; done) | (go_simp; rfl)); intro gb517 hg w30 hbox hb; have n0_ := Aside0.mk (below_step (by repeat (first | (with_reducible first | exact HB.out | apply below_alloc | apply pw_below_drewN | apply below_drew1) | exact HB.out)) hb); have n1_ := Aside0.mk (hbox); have n2_ := Aside0.mk ((by rw [hg]; exact (below_size (by repeat (first | (with_reducible first | exact HB.out | apply below_alloc | apply pw_below_drewN | apply below_drew1) | exact HB.out))) : w.heap.size ≤ gb517)); have n3_ := Aside0.mk ((by rw [hg]; exact (below_size (by repeat (first | (with_reducible first | exact HB.out | apply below_alloc | apply pw_below_drewN | apply below_drew1) | exact HB.out))) : w.heap.size ≤ gb517)); clear HB; have HB := n0_; have BK517 := n1_; have GW517 := n2_; have GE517 := n3_; clear n0_ n1_ n2_ n3_; clear hb hbox hg) | ((with_reducible refine gate_callee (f := 65) rfl ?_); refine goesL_ (some 11) rfl rfl Tryd.func65 (by kernel_rfl) rfl #[] rfl (by (try simp only [List.map_toArray, List.map_cons, List.map_nil]); first | done | rfl | (simp only [List.length_drop, List.length_take]; rfl)) ?_; (with_reducible refine (flt_wide.calls  t518 t519 t520 _ A3.out).mono ?_); rintro e w31 ⟨rfl, hb⟩; refine ⟨_, rfl, ?_⟩; have n0_ := Aside0.mk (blk_below (g := gb517) (o := .cells #[.int .i64 a0_0, .int .i64 a0_1, .int .i64 a0_2] 84 (0, 0)) (by (with_reducible repeat (first | refine blk_drewN ?_ _ | refine blk_drew ?_ | refine blk_alloc ?_ _)); exact BK517.out) hb); have n1_ := Aside0.mk (below_step (by repeat (first | (with_reducible first | exact HB.out | apply below_alloc | apply pw_below_drewN | apply below_drew1 | refine below_set ?_ GE517.out) | exact HB.out)) hb); clear BK517; clear HB; have BK517 := n0_; have HB := n1_; clear n0_ n1_; (try clear hb); (try clear hb2); (try clear hk); (try clear hi)) | ((with_reducible refine gate_dst (N := 5) rfl ?_); refine box_event ?hg (N := 5) ?hd (cs := #[.int .i64 0, .int .i64 0, .int .i64 0]) (t := 84) ?hr ?_; (case hd => rfl); (case hg => rfl); (case hr => first | (go_simp; done) | (go_simp; rfl)); intro gb521 hg w32 hbox hb; have n0_ := Aside0.mk (blk_below (g := gb517) (o := .cells #[.int .i64 a0_0, .int .i64 a0_1, .int .i64 a0_2] 84 (0, 0)) (by (with_reducible repeat (first | refine blk_drewN ?_ _ | refine blk_drew ?_ | refine blk_alloc ?_ _)); exact BK517.out) hb); have n1_ := Aside0.mk (below_step (by repeat (first | (with_reducible first | exact HB.out | apply below_alloc | apply pw_below_drewN | apply below_drew1 | refine below_set ?_ GE517.out) | exact HB.out)) hb); have n2_ := Aside0.mk (hbox); have n3_ := Aside0.mk ((by rw [hg]; exact (below_size (by repeat (first | (with_reducible first | exact HB.out | apply below_alloc | apply pw_below_drewN | apply below_drew1 | refine below_set ?_ GE517.out) | exact HB.out))) : w.heap.size ≤ gb521)); have n4_ := Aside0.mk ((by rw [hg]; exact (below_size (by repeat (first | (with_reducible first | exact HB.out | apply below_alloc | apply pw_below_drewN | apply below_drew1 | refine below_set ?_ GE517.out) | exact HB.out))) : w.heap.size ≤ gb521)); have n5_ := Aside0.mk ((by rw [hg]; exact Nat.ne_of_lt (blk_lt (g := gb517) (o := .cells #[.int .i64 a0_0, .int .i64 a0_1, .int .i64 a0_2] 84 (0, 0)) (by (with_reducible repeat (first | refine blk_drewN ?_ _ | refine blk_drew ?_ | refine blk_alloc ?_ _)); exact BK517.out)) : gb517 ≠ gb521)); have n6_ := Aside0.mk ((by rw [hg]; exact Nat.ne_of_gt (blk_lt (g := gb517) (o := .cells #[.int .i64 a0_0, .int .i64 a0_1, .int .i64 a0_2] 84 (0, 0)) (by (with_reducible repeat (first | refine blk_drewN ?_ _ | refine blk_drew ?_ | refine blk_alloc ?_ _)); exact BK517.out)) : gb521 ≠ gb517)); clear BK517; clear HB; have BK517 := n0_; have HB := n1_; have BK521 := n2_; have GW521 := n3_; have GE521 := n4_; have NB517_521 := n5_; have NB521_517 := n6_; clear n0_ n1_ n2_ n3_ n4_ n5_ n6_; clear hb hbox hg; have hnb33 := NB521_517.out; have hnc33 := NB517_521.out; have hcz34_0 : w32.cell? ⟨gb521, 0, none⟩ = some (.int .i64 0) := (blk_cell BK521.out 0).trans rfl; have hcz34_1 : w32.cell? ⟨gb521, 1, none⟩ = some (.int .i64 0) := (blk_cell BK521.out 1).trans rfl; have hcz34_2 : w32.cell? ⟨gb521, 2, none⟩ = some (.int .i64 0) := (blk_cell BK521.out 2).trans rfl; have hfz34_0 := blk_frozen BK521.out 0; have hfz34_1 := blk_frozen BK521.out 1; have hfz34_2 := blk_frozen BK521.out 2) | ((with_reducible refine gate_callee (f := 67) rfl ?_); refine goesL_ (some 15) rfl rfl Tryd.func67 (by kernel_rfl) rfl #[.agg #[.int .i64 t518, .int .i64 t519, .int .i64 t520], .int .u64 a1] rfl (by (try simp only [List.map_toArray, List.map_cons, List.map_nil]); first | done | rfl | (simp only [List.length_drop, List.length_take]; rfl)) ?_; (with_reducible refine (flt_format_parts.calls t518 t519 t520 a1 t522 t523 t524 _ A4.out).mono ?_); rintro e w35 ⟨rfl, hb⟩; refine ⟨_, rfl, ?_⟩; have n0_ := Aside0.mk (blk_below (g := gb517) (o := .cells #[.int .i64 a0_0, .int .i64 a0_1, .int .i64 a0_2] 84 (0, 0)) (by (with_reducible repeat (first | refine blk_drewN ?_ _ | refine blk_drew ?_ | refine blk_alloc ?_ _)); refine blk_far ?_ NB517_521.out _; (with_reducible repeat (first | refine blk_drewN ?_ _ | refine blk_drew ?_ | refine blk_alloc ?_ _)); refine blk_far ?_ NB517_521.out _; (with_reducible repeat (first | refine blk_drewN ?_ _ | refine blk_drew ?_ | refine blk_alloc ?_ _)); refine blk_far ?_ NB517_521.out _; (with_reducible repeat (first | refine blk_drewN ?_ _ | refine blk_drew ?_ | refine blk_alloc ?_ _)); exact BK517.out) hb); have n1_ := Aside0.mk (blk_below (g := gb521) (o := .cells #[.int .i64 t518, .int .i64 t519, .int .i64 t520] 84 (0, 0)) (by (with_reducible repeat (first | refine blk_drewN ?_ _ | refine blk_drew ?_ | refine blk_alloc ?_ _)); refine blk_put (cs := #[.int .i64 t518, .int .i64 t519, .int .i64 0]) ?_ 2 _ rfl; (with_reducible repeat (first | refine blk_drewN ?_ _ | refine blk_drew ?_ | refine blk_alloc ?_ _)); refine blk_put (cs := #[.int .i64 t518, .int .i64 0, .int .i64 0]) ?_ 1 _ rfl; (with_reducible repeat (first | refine blk_drewN ?_ _ | refine blk_drew ?_ | refine blk_alloc ?_ _)); refine blk_put (cs := #[.int .i64 0, .int .i64 0, .int .i64 0]) ?_ 0 _ rfl; (with_reducible repeat (first | refine blk_drewN ?_ _ | refine blk_drew ?_ | refine blk_alloc ?_ _)); exact BK521.out) hb); have n2_ := Aside0.mk (below_step (by repeat (first | (with_reducible first | exact HB.out | apply below_alloc | apply pw_below_drewN | apply below_drew1 | refine below_set ?_ GE517.out | refine below_set ?_ GE521.out) | exact HB.out)) hb); clear BK517; clear BK521; clear HB; have BK517 := n0_; have BK521 := n1_; have HB := n2_; clear n0_ n1_ n2_; (try clear hb); (try clear hb2); (try clear hk); (try clear hi)))
    have n0_ := Aside0.mk (blk_drew BK517.out)
    have n1_ := Aside0.mk (blk_drew BK521.out)
    have n2_ := Aside0.mk (below_drew1 HB.out)
    clear BK517
    clear BK521
    clear HB
    have BK517 := n0_
    have BK521 := n1_
    have HB := n2_
    clear n0_ n1_ n2_
    refine start_ (n := 8) (S := fun w' => w'.cell? ⟨gb521, 0, none⟩ = some (.int .i64 t518) ∧ w'.cell? ⟨gb521, 1, none⟩ = some (.int .i64 t519) ∧ w'.cell? ⟨gb521, 2, none⟩ = some (.int .i64 t520) ∧ w'.cell? ⟨gb517, 0, none⟩ = some (.int .i64 a0_0) ∧ w'.cell? ⟨gb517, 1, none⟩ = some (.int .i64 a0_1) ∧ w'.cell? ⟨gb517, 2, none⟩ = some (.int .i64 a0_2)) (ds := []) #[false, false, false, false, false, false, false, false] (by kernel_rfl) rfl rfl ⟨(blk_cell BK521.out 0).trans rfl, (blk_cell BK521.out 1).trans rfl, (blk_cell BK521.out 2).trans rfl, (blk_cell BK517.out 0).trans rfl, (blk_cell BK517.out 1).trans rfl, (blk_cell BK517.out 2).trans rfl⟩ (fun hHeld => ?_); refine with_tabW flt_format_narrow.tab3 flt_format_narrow.bits3 (fun HT_ HW_ => ?_)
    generalize w35.drew = w36 at BK517 BK521 HB hHeld ⊢
    refine pure_ (i := 0) (N := some 19) (v := ?_) (a' := ?_) #[true, false, false, false, false, false, false, false] rfl rfl (any_of HT_.out (by kernel_rfl)) (fun _ _ _ h => h) (Or.inl ⟨by rfl, ?_⟩) ?_ ?_
    rotate_left
    · intro w'
      go_simp
      with_reducible rfl
    rotate_left
    · simp only [Act.put, List.setIfInBounds_toArray, List.set_cons_zero, List.set_cons_succ, i64_w, i32_w]
      rfl
    refine take_ (i := 1) (N := some 20) (v := ?_) (a' := ?_) #[true, true, false, false, false, false, false, false] rfl rfl (take_ofW HT_.out HW_.out (by kernel_rfl)) (fun _ _ _ h => h) (Or.inl ⟨by rfl, ?_⟩) hHeld ?_ ?_
    rotate_left
    · rintro w' ⟨s0, s1, s2, s3, s4, s5⟩
      go_simp
      with_reducible rfl
    rotate_left
    · simp only [Act.put, List.setIfInBounds_toArray, List.set_cons_zero, List.set_cons_succ, i64_w, i32_w]
      rfl
    refine take_ (i := 4) (N := some 23) (v := ?_) (a' := ?_) #[true, true, false, false, true, false, false, false] rfl rfl (take_ofW HT_.out HW_.out (by kernel_rfl)) (fun _ _ _ h => h) (Or.inl ⟨by rfl, ?_⟩) hHeld ?_ ?_
    rotate_left
    · rintro w' ⟨s0, s1, s2, s3, s4, s5⟩
      go_simp
      with_reducible rfl
    rotate_left
    · simp only [Act.put, List.setIfInBounds_toArray, List.set_cons_zero, List.set_cons_succ, i64_w, i32_w]
      rfl
    refine one_ (i := 2) (N := some 21) #[true, true, true, false, true, false, false, false] rfl rfl (one_of HT_.out (by kernel_rfl)) (by decide) (fun K hK => ?_)
    refine goes_ Tryd.func68 (by kernel_rfl) rfl #[.agg #[.int .i64 t518, .int .i64 t519, .int .i64 t520]] (by rfl) rfl rfl (by (try simp only [List.map_toArray, List.map_cons, List.map_nil]); first | done | rfl | (simp only [List.length_drop, List.length_take]; rfl)) ?_
    with_reducible refine (flt_format_bias.calls t518 t519 t520 t525 _ A5.out).mono ?_
    rintro e w37 ⟨rfl, hb⟩
    refine ⟨_, rfl, ?_⟩
    have n0_ := Aside0.mk (blk_below (g := gb517) (o := .cells #[.int .i64 a0_0, .int .i64 a0_1, .int .i64 a0_2] 84 (0, 0)) (by (with_reducible repeat (first | refine blk_drewN ?_ _ | refine blk_drew ?_ | refine blk_alloc ?_ _)); exact BK517.out) hb)
    have n1_ := Aside0.mk (blk_below (g := gb521) (o := .cells #[.int .i64 t518, .int .i64 t519, .int .i64 t520] 84 (0, 0)) (by (with_reducible repeat (first | refine blk_drewN ?_ _ | refine blk_drew ?_ | refine blk_alloc ?_ _)); exact BK521.out) hb)
    have n2_ := Aside0.mk (below_step (by repeat (first | (with_reducible first | exact HB.out | apply below_alloc | apply pw_below_drewN | apply below_drew1 | refine below_set ?_ GE517.out | refine below_set ?_ GE521.out) | exact HB.out)) hb)
    clear BK517
    clear BK521
    clear HB
    have BK517 := n0_
    have BK521 := n1_
    have HB := n2_
    clear n0_ n1_ n2_
    (try clear hb)
    (try clear hb2)
    (try clear hk)
    (try clear hi)
    refine hK.out _ _ ⟨(blk_cell BK521.out 0).trans rfl, (blk_cell BK521.out 1).trans rfl, (blk_cell BK521.out 2).trans rfl, (blk_cell BK517.out 0).trans rfl, (blk_cell BK517.out 1).trans rfl, (blk_cell BK517.out 2).trans rfl⟩ (fun hHeld => ?_)
    clear hK K
    refine norm_ (a' := ?_) ?_ ?_
    rotate_left
    · show Act.put _ (some 21) _ = _
      simp only [Act.put, List.setIfInBounds_toArray, List.set_cons_zero, List.set_cons_succ, i64_w, i32_w]
      rfl
    refine pure_ (i := 3) (N := some 22) (v := ?_) (a' := ?_) #[true, true, true, true, true, false, false, false] rfl rfl (any_of HT_.out (by kernel_rfl)) (fun _ _ _ h => h) (Or.inl ⟨by rfl, ?_⟩) ?_ ?_
    rotate_left
    · intro w'
      go_simp
      with_reducible rfl
    rotate_left
    · simp only [Act.put, List.setIfInBounds_toArray, List.set_cons_zero, List.set_cons_succ, i64_w, i32_w]
      rfl
    refine one_ (i := 5) (N := some 24) #[true, true, true, true, true, true, false, false] rfl rfl (one_of HT_.out (by kernel_rfl)) (by decide) (fun K hK => ?_)
    refine goes_ Tryd.func68 (by kernel_rfl) rfl #[.agg #[.int .i64 a0_0, .int .i64 a0_1, .int .i64 a0_2]] (by rfl) rfl rfl (by (try simp only [List.map_toArray, List.map_cons, List.map_nil]); first | done | rfl | (simp only [List.length_drop, List.length_take]; rfl)) ?_
    with_reducible refine (flt_format_bias.calls a0_0 a0_1 a0_2 t526 _ A6.out).mono ?_
    rintro e w38 ⟨rfl, hb⟩
    refine ⟨_, rfl, ?_⟩
    have n0_ := Aside0.mk (blk_below (g := gb517) (o := .cells #[.int .i64 a0_0, .int .i64 a0_1, .int .i64 a0_2] 84 (0, 0)) (by (with_reducible repeat (first | refine blk_drewN ?_ _ | refine blk_drew ?_ | refine blk_alloc ?_ _)); exact BK517.out) hb)
    have n1_ := Aside0.mk (blk_below (g := gb521) (o := .cells #[.int .i64 t518, .int .i64 t519, .int .i64 t520] 84 (0, 0)) (by (with_reducible repeat (first | refine blk_drewN ?_ _ | refine blk_drew ?_ | refine blk_alloc ?_ _)); exact BK521.out) hb)
    have n2_ := Aside0.mk (below_step (by repeat (first | (with_reducible first | exact HB.out | apply below_alloc | apply pw_below_drewN | apply below_drew1 | refine below_set ?_ GE517.out | refine below_set ?_ GE521.out) | exact HB.out)) hb)
    clear BK517
    clear BK521
    clear HB
    have BK517 := n0_
    have BK521 := n1_
    have HB := n2_
    clear n0_ n1_ n2_
    (try clear hb)
    (try clear hb2)
    (try clear hk)
    (try clear hi)
    refine hK.out _ _ ⟨(blk_cell BK521.out 0).trans rfl, (blk_cell BK521.out 1).trans rfl, (blk_cell BK521.out 2).trans rfl, (blk_cell BK517.out 0).trans rfl, (blk_cell BK517.out 1).trans rfl, (blk_cell BK517.out 2).trans rfl⟩ (fun hHeld => ?_)
    clear hK K
    refine norm_ (a' := ?_) ?_ ?_
    rotate_left
    · show Act.put _ (some 24) _ = _
      simp only [Act.put, List.setIfInBounds_toArray, List.set_cons_zero, List.set_cons_succ, i64_w, i32_w]
      rfl
    refine pure_ (i := 6) (N := some 25) (v := ?_) (a' := ?_) #[true, true, true, true, true, true, true, false] rfl rfl (any_of HT_.out (by kernel_rfl)) (fun _ _ _ h => h) (Or.inl ⟨by rfl, ?_⟩) ?_ ?_
    rotate_left
    · intro w'
      go_simp
      with_reducible rfl
    rotate_left
    · simp only [Act.put, List.setIfInBounds_toArray, List.set_cons_zero, List.set_cons_succ, i64_w, i32_w]
      rfl
    refine pure_ (i := 7) (N := some 9) (v := ?_) (a' := ?_) #[true, true, true, true, true, true, true, true] rfl rfl (any_of HT_.out (by kernel_rfl)) (fun _ _ _ h => h) (Or.inl ⟨by rfl, ?_⟩) ?_ ?_
    rotate_left
    · intro w'
      go_simp
      with_reducible rfl
    rotate_left
    · simp only [Act.put, List.setIfInBounds_toArray, List.set_cons_zero, List.set_cons_succ, i64_w, i32_w]
      rfl
    refine done_ (done_of HT_.out (by kernel_rfl)) ?_
    have hcz39_0 : w38.cell? ⟨gb521, 0, none⟩ = some (.int .i64 t518) := (blk_cell BK521.out 0).trans rfl
    have hcz39_1 : w38.cell? ⟨gb521, 1, none⟩ = some (.int .i64 t519) := (blk_cell BK521.out 1).trans rfl
    have hcz39_2 : w38.cell? ⟨gb521, 2, none⟩ = some (.int .i64 t520) := (blk_cell BK521.out 2).trans rfl
    have hfz39_0 := blk_frozen BK521.out 0
    have hfz39_1 := blk_frozen BK521.out 1
    have hfz39_2 := blk_frozen BK521.out 2
    have hcz40_0 : w38.cell? ⟨gb517, 0, none⟩ = some (.int .i64 a0_0) := (blk_cell BK517.out 0).trans rfl
    have hcz40_1 : w38.cell? ⟨gb517, 1, none⟩ = some (.int .i64 a0_1) := (blk_cell BK517.out 1).trans rfl
    have hcz40_2 : w38.cell? ⟨gb517, 2, none⟩ = some (.int .i64 a0_2) := (blk_cell BK517.out 2).trans rfl
    have hfz40_0 := blk_frozen BK517.out 0
    have hfz40_1 := blk_frozen BK517.out 1
    have hfz40_2 := blk_frozen BK517.out 2
    go_upto_region 7 with (first | ((with_reducible refine gate_callee (f := 73) rfl ?_); refine goesL_ (some 34) rfl rfl Tryd.func73 (by kernel_rfl) rfl #[.agg #[.int .i64 t518, .int .i64 t519, .int .i64 t520]] rfl (by (try simp only [List.map_toArray, List.map_cons, List.map_nil]); first | done | rfl | (simp only [List.length_drop, List.length_take]; rfl)) ?_; (with_reducible refine (flt_format_top.calls t518 t519 t520 t527 _ A7.out).mono ?_); rintro e w41 ⟨rfl, hb⟩; refine ⟨_, rfl, ?_⟩; have n0_ := Aside0.mk (blk_below (g := gb517) (o := .cells #[.int .i64 a0_0, .int .i64 a0_1, .int .i64 a0_2] 84 (0, 0)) (by (with_reducible repeat (first | refine blk_drewN ?_ _ | refine blk_drew ?_ | refine blk_alloc ?_ _)); exact BK517.out) hb); have n1_ := Aside0.mk (blk_below (g := gb521) (o := .cells #[.int .i64 t518, .int .i64 t519, .int .i64 t520] 84 (0, 0)) (by (with_reducible repeat (first | refine blk_drewN ?_ _ | refine blk_drew ?_ | refine blk_alloc ?_ _)); exact BK521.out) hb); have n2_ := Aside0.mk (below_step (by repeat (first | (with_reducible first | exact HB.out | apply below_alloc | apply pw_below_drewN | apply below_drew1 | refine below_set ?_ GE517.out | refine below_set ?_ GE521.out) | exact HB.out)) hb); clear BK517; clear BK521; clear HB; have BK517 := n0_; have BK521 := n1_; have HB := n2_; clear n0_ n1_ n2_; (try clear hb); (try clear hb2); (try clear hk); (try clear hi)))
    (try simp only [Act.put, List.setIfInBounds_toArray, List.set_cons_zero, List.set_cons_succ])
    go_cut [44] (fun v44 wc => ∃ (kq : Nat) (x44_28 : Bool), v44 = .bool x44_28 ∧ Aside0 (flt_format_narrow.j0 kq t522 t524 (wrap64 ((wrap64 (t523 - t525)) + t526)) (wrap64 (t520 - a0_2)) x44_28 a0_0 a0_1 a0_2 t518 t519 t520 = some r) ∧ Aside0 (kq ≤ k) ∧ Aside0 (wc.heap[gb517]? = some (.cells #[.int .i64 a0_0, .int .i64 a0_1, .int .i64 a0_2] 84 (0, 0))) ∧ Aside0 (wc.heap[gb521]? = some (.cells #[.int .i64 t518, .int .i64 t519, .int .i64 t520] 84 (0, 0))) ∧ Aside0 (Below w.heap.size w wc))
    case first =>
      have H := HC29.out
      clear HC29
      by_cases c42 : t523 = 0
      · rw [if_pos c42] at H
        have c42b0 : (t523 == 0) = true := beq_iff_eq.mpr c42
        have c42b1 : (t523 != 0) = false := bne_eq_false_iff_eq.mpr c42
        clear c42
        (first | rw [c42b0] | rw [c42b1] | (simp only [i64_w, i32_w]; rw [c42b0]) | skip)
        have H' := Aside0.mk H
        clear H
        go_wp2
        go_meet
        case rel => exact ⟨_, (true), (by first | rfl | (simp; done) | (simp [*]; done)), H', ⟨by first | omega | exact Nat.le_refl _⟩, ⟨by (with_reducible repeat (first | refine blk_drewN ?_ _ | refine blk_drew ?_ | refine blk_alloc ?_ _)); exact BK517.out⟩, ⟨by (with_reducible repeat (first | refine blk_drewN ?_ _ | refine blk_drew ?_ | refine blk_alloc ?_ _)); exact BK521.out⟩, ⟨by repeat (first | (with_reducible first | exact HB.out | apply below_alloc | apply pw_below_drewN | apply below_drew1 | refine below_set ?_ GE517.out | refine below_set ?_ GE521.out) | exact HB.out)⟩⟩
      · rw [if_neg c42] at H
        have c42b0 : (t523 == 0) = false := beq_eq_false_iff_ne.mpr c42
        have c42b1 : (t523 != 0) = true := bne_iff_ne.mpr c42
        (first | rw [c42b0] | rw [c42b1] | (simp only [i64_w, i32_w]; rw [c42b0]) | skip)
        replace H := Option.bind_eq_some_iff.mp H
        obtain ⟨t530, A430, H⟩ := H
        replace H : (flt_format_narrow.j0 k t522 t524 (wrap64 ((wrap64 (t523 - t525)) + t526)) (wrap64 (t520 - a0_2)) (decide ((wrap64 ((wrap64 (t523 - t525)) + t526)) ≥ t530)) a0_0 a0_1 a0_2 t518 t519 t520) = some r := H
        have A43 := Aside0.mk A430
        clear A430
        have H' := Aside0.mk H
        clear H
        have hnb44 := NB517_521.out
        have hnc44 := NB521_517.out
        have hcz45_0 : w41.cell? ⟨gb517, 0, none⟩ = some (.int .i64 a0_0) := (blk_cell BK517.out 0).trans rfl
        have hcz45_1 : w41.cell? ⟨gb517, 1, none⟩ = some (.int .i64 a0_1) := (blk_cell BK517.out 1).trans rfl
        have hcz45_2 : w41.cell? ⟨gb517, 2, none⟩ = some (.int .i64 a0_2) := (blk_cell BK517.out 2).trans rfl
        have hfz45_0 := blk_frozen BK517.out 0
        have hfz45_1 := blk_frozen BK517.out 1
        have hfz45_2 := blk_frozen BK517.out 2
        go_wp2_with (first | (go_at_call 73; (with_reducible refine (flt_format_top.calls a0_0 a0_1 a0_2 t530 _ A43.out).mono ?_); rintro e w46 ⟨rfl, hb⟩; have n0_ := Aside0.mk (blk_below (g := gb517) (o := .cells #[.int .i64 a0_0, .int .i64 a0_1, .int .i64 a0_2] 84 (0, 0)) (by (with_reducible repeat (first | refine blk_drewN ?_ _ | refine blk_drew ?_ | refine blk_alloc ?_ _)); exact BK517.out) hb); have n1_ := Aside0.mk (blk_below (g := gb521) (o := .cells #[.int .i64 t518, .int .i64 t519, .int .i64 t520] 84 (0, 0)) (by (with_reducible repeat (first | refine blk_drewN ?_ _ | refine blk_drew ?_ | refine blk_alloc ?_ _)); exact BK521.out) hb); have n2_ := Aside0.mk (below_step (by repeat (first | (with_reducible first | exact HB.out | apply below_alloc | apply pw_below_drewN | apply below_drew1 | refine below_set ?_ GE517.out | refine below_set ?_ GE521.out) | exact HB.out)) hb); clear BK517; clear BK521; clear HB; have BK517 := n0_; have BK521 := n1_; have HB := n2_; clear n0_ n1_ n2_; (try clear hb); (try clear hb2); (try clear hk); (try clear hi)))
        go_meet
        case rel => exact ⟨_, (decide ((wrap64 ((wrap64 (t523 - t525)) + t526)) ≥ t530)), (by first | rfl | (simp; done) | (simp [*]; done)), H', ⟨by first | omega | exact Nat.le_refl _⟩, ⟨by (with_reducible repeat (first | refine blk_drewN ?_ _ | refine blk_drew ?_ | refine blk_alloc ?_ _)); exact BK517.out⟩, ⟨by (with_reducible repeat (first | refine blk_drewN ?_ _ | refine blk_drew ?_ | refine blk_alloc ?_ _)); exact BK521.out⟩, ⟨by repeat (first | (with_reducible first | exact HB.out | apply below_alloc | apply pw_below_drewN | apply below_drew1 | refine below_set ?_ GE517.out | refine below_set ?_ GE521.out) | exact HB.out)⟩⟩
    case rest =>
      clear HC29
      try clear c1
      try clear p2
      try clear c3
      try clear c4
      try clear c6
      try clear p6
      try clear c7
      try clear c8
      try clear c8b0
      try clear c8b1
      try clear c10
      try clear c11
      try clear c11b0
      try clear c11b1
      try clear c17
      try clear c33
      try clear c42
      try clear c42b0
      try clear c42b1
      try clear c44
      try clear hcz18_0
      try clear hcz18_1
      try clear hcz18_2
      try clear hcz23_0
      try clear hcz23_1
      try clear hcz23_2
      try clear hcz24_0
      try clear hcz24_1
      try clear hcz24_2
      try clear hcz34_0
      try clear hcz34_1
      try clear hcz34_2
      try clear hcz39_0
      try clear hcz39_1
      try clear hcz39_2
      try clear hcz40_0
      try clear hcz40_1
      try clear hcz40_2
      try clear hcz45_0
      try clear hcz45_1
      try clear hcz45_2
      try clear hfz18_0
      try clear hfz18_1
      try clear hfz18_2
      try clear hfz23_0
      try clear hfz23_1
      try clear hfz23_2
      try clear hfz24_0
      try clear hfz24_1
      try clear hfz24_2
      try clear hfz34_0
      try clear hfz34_1
      try clear hfz34_2
      try clear hfz39_0
      try clear hfz39_1
      try clear hfz39_2
      try clear hfz40_0
      try clear hfz40_1
      try clear hfz40_2
      try clear hfz45_0
      try clear hfz45_1
      try clear hfz45_2
      obtain ⟨kq, x44_28, rfl, HA, HJ28, BK517, BK521, HB⟩ := hcut
      cases kq with
      | zero => exact absurd HA.out (by simp [flt_format_narrow.j0])
      | succ kj28 =>
        have H := HA.out
        clear HA
        simp only [flt_format_narrow.j0] at H
        by_cases c47 : x44_28 = true
        · subst c47
          have H1 : ((flt_format_join.f a0_0 a0_1 a0_2 t522 0 0).bind fun t531 => (some t531)) = some r := by rw [if_pos rfl] at H; exact H
          clear H
          have H := H1
          clear H1
          replace H := Option.bind_eq_some_iff.mp H
          obtain ⟨t531, A480, H⟩ := H
          replace H : (some t531) = some r := H
          have A48 := Aside0.mk A480
          clear A480
          obtain rfl := Option.some.inj H
          have hnb49 := NB517_521.out
          have hnc49 := NB521_517.out
          have hcz50_0 : wc.cell? ⟨gb517, 0, none⟩ = some (.int .i64 a0_0) := (blk_cell BK517.out 0).trans rfl
          have hcz50_1 : wc.cell? ⟨gb517, 1, none⟩ = some (.int .i64 a0_1) := (blk_cell BK517.out 1).trans rfl
          have hcz50_2 : wc.cell? ⟨gb517, 2, none⟩ = some (.int .i64 a0_2) := (blk_cell BK517.out 2).trans rfl
          have hfz50_0 := blk_frozen BK517.out 0
          have hfz50_1 := blk_frozen BK517.out 1
          have hfz50_2 := blk_frozen BK517.out 2
          go_wp2_with (first | ((with_reducible refine gate_callee (f := 107) rfl ?_); refine goesL_ (some 55) rfl rfl Tryd.func107 (by kernel_rfl) rfl #[.agg #[.int .i64 a0_0, .int .i64 a0_1, .int .i64 a0_2], .int .u64 t522, .int .i64 0, .int .u64 0] rfl (by (try simp only [List.map_toArray, List.map_cons, List.map_nil]); first | done | rfl | (simp only [List.length_drop, List.length_take]; rfl)) ?_; (with_reducible refine (flt_format_join.calls a0_0 a0_1 a0_2 t522 0 0 t531 _ A48.out).mono ?_); rintro e w51 ⟨rfl, hb⟩; refine ⟨_, rfl, ?_⟩; have n0_ := Aside0.mk (blk_below (g := gb517) (o := .cells #[.int .i64 a0_0, .int .i64 a0_1, .int .i64 a0_2] 84 (0, 0)) (by (with_reducible repeat (first | refine blk_drewN ?_ _ | refine blk_drew ?_ | refine blk_alloc ?_ _)); exact BK517.out) hb); have n1_ := Aside0.mk (blk_below (g := gb521) (o := .cells #[.int .i64 t518, .int .i64 t519, .int .i64 t520] 84 (0, 0)) (by (with_reducible repeat (first | refine blk_drewN ?_ _ | refine blk_drew ?_ | refine blk_alloc ?_ _)); exact BK521.out) hb); have n2_ := Aside0.mk (below_step (by repeat (first | (with_reducible first | exact HB.out | apply below_alloc | apply pw_below_drewN | apply below_drew1 | refine below_set ?_ GE517.out | refine below_set ?_ GE521.out) | exact HB.out)) hb); clear BK517; clear BK521; clear HB; have BK517 := n0_; have BK521 := n1_; have HB := n2_; clear n0_ n1_ n2_; (try clear hb); (try clear hb2); (try clear hk); (try clear hi)))
          go_ret
          exact ⟨by first | rfl | (simp [errW_none, errW_some] <;> rfl) | (simp [*, errW_none, errW_some] <;> rfl), by repeat (first | (with_reducible first | exact HB.out | apply below_alloc | apply pw_below_drewN | apply below_drew1 | refine below_set ?_ GE517.out | refine below_set ?_ GE521.out) | exact HB.out)⟩
        · replace c47 := Bool.eq_false_iff.mpr c47
          subst c47
          have H1 : (if (wrap64 ((wrap64 (t523 - t525)) + t526)) > 0 then (if 0 ≤ (wrap64 (t520 - a0_2)) then ((flt_format_join.f a0_0 a0_1 a0_2 t522 (wrap64 ((wrap64 (t523 - t525)) + t526)) (shr .u64 t524 (wrap64 (t520 - a0_2)))).bind fun t532 => (some t532)) else (none)) else (if 0 ≤ t520 then (if 0 ≤ (mn (wrap64 ((wrap64 ((wrap64 (t520 - a0_2)) + 1)) - (wrap64 ((wrap64 (t523 - t525)) + t526)))) 63) then ((flt_format_join.f a0_0 a0_1 a0_2 t522 0 ((Go.bits .or .u64 (shl .u64 1 t520) t524) / 2 ^ (mn (wrap64 ((wrap64 ((wrap64 (t520 - a0_2)) + 1)) - (wrap64 ((wrap64 (t523 - t525)) + t526)))) 63).toNat)).bind fun t533 => (some t533)) else (none)) else (none))) = some r := by rw [if_neg (show ¬ (false = true) by decide)] at H; exact H
          clear H
          have H := H1
          clear H1
          by_cases c52 : (wrap64 ((wrap64 (t523 - t525)) + t526)) > 0
          · rw [if_pos c52] at H
            have c52b0 : decide (0 < (wrap64 ((wrap64 (t523 - t525)) + t526))) = true := decide_eq_true c52
            clear c52
            obtain ⟨ji53, hji53⟩ : ∃ j_ : Int, (wrap64 (t520 - a0_2)) = j_ := ⟨_, rfl⟩
            replace H : (if 0 ≤ (ji53) then ((flt_format_join.f a0_0 a0_1 a0_2 t522 (wrap64 ((wrap64 (t523 - t525)) + t526)) (shr .u64 t524 (ji53))).bind fun t532 => (some t532)) else (none)) = some r := by first | (rw [hji53] at H; exact H) | (simp only [hji53] at H ⊢; exact H)
            have hji53w : (IntKind.i64.wrap (t520 - a0_2)) = ji53 := (i64_w _).trans hji53
            by_cases c54 : 0 ≤ (ji53)
            · rw [if_pos c54] at H
              have c54b0 := eq_true c54
              have c54b1 : decide (0 ≤ (ji53)) = true := decide_eq_true c54
              clear c54
              obtain ⟨ji55, hji55⟩ : ∃ j_ : Int, (shr .u64 t524 (ji53)) = j_ := ⟨_, rfl⟩
              replace H : ((flt_format_join.f a0_0 a0_1 a0_2 t522 (wrap64 ((wrap64 (t523 - t525)) + t526)) (ji55)).bind fun t532 => (some t532)) = some r := by first | (rw [hji55] at H; exact H) | (simp only [hji55] at H ⊢; exact H)
              have hji55_ : (t524 / 2 ^ min (ji53).toNat 64) = ji55 := hji55
              have hji55z : (ji53) ≤ 64 → (t524 / 2 ^ (ji53).toNat) = ji55 := shr_small hji55
              replace H := Option.bind_eq_some_iff.mp H
              obtain ⟨t532, A560, H⟩ := H
              replace H : (some t532) = some r := H
              have A56 := Aside0.mk A560
              clear A560
              obtain rfl := Option.some.inj H
              try go_wp2
              have n0_ := Aside0.mk (blk_drew BK517.out)
              have n1_ := Aside0.mk (blk_drew BK521.out)
              have n2_ := Aside0.mk (below_drew1 HB.out)
              clear BK517
              clear BK521
              clear HB
              have BK517 := n0_
              have BK521 := n1_
              have HB := n2_
              clear n0_ n1_ n2_
              refine start_ (n := 8) (S := fun w' => w'.cell? ⟨gb517, 0, none⟩ = some (.int .i64 a0_0) ∧ w'.cell? ⟨gb517, 1, none⟩ = some (.int .i64 a0_1) ∧ w'.cell? ⟨gb517, 2, none⟩ = some (.int .i64 a0_2)) (ds := []) #[false, false, false, false, false, false, false, false] (by kernel_rfl) rfl rfl ⟨(blk_cell BK517.out 0).trans rfl, (blk_cell BK517.out 1).trans rfl, (blk_cell BK517.out 2).trans rfl⟩ (fun hHeld => ?_); refine with_tabW flt_format_narrow.tab10 flt_format_narrow.bits10 (fun HT_ HW_ => ?_)
              generalize wc.drew = w57 at BK517 BK521 HB hHeld ⊢
              refine pure_ (i := 1) (N := some 60) (v := ?_) (a' := ?_) #[false, true, false, false, false, false, false, false] rfl rfl (any_of HT_.out (by kernel_rfl)) (fun _ _ _ h => h) (Or.inl ⟨by rfl, ?_⟩) ?_ ?_
              rotate_left
              · intro w'
                go_simp
                with_reducible rfl
              rotate_left
              · simp only [Act.put, List.setIfInBounds_toArray, List.set_cons_zero, List.set_cons_succ, i64_w, i32_w]
                rfl
              refine pure_ (i := 2) (N := some 61) (v := ?_) (a' := ?_) #[false, true, true, false, false, false, false, false] rfl rfl (any_of HT_.out (by kernel_rfl)) (fun _ _ _ h => h) (Or.inl ⟨by rfl, ?_⟩) ?_ ?_
              rotate_left
              · intro w'
                go_simp
                with_reducible rfl
              rotate_left
              · simp only [Act.put, List.setIfInBounds_toArray, List.set_cons_zero, List.set_cons_succ, i64_w, i32_w]
                rfl
              refine pure_ (i := 3) (N := some 62) (v := ?_) (a' := ?_) #[false, true, true, true, false, false, false, false] rfl rfl (any_of HT_.out (by kernel_rfl)) (fun _ _ _ h => h) (Or.inl ⟨by rfl, ?_⟩) ?_ ?_
              rotate_left
              · intro w'
                go_simp
                with_reducible rfl
              rotate_left
              · simp only [Act.put, List.setIfInBounds_toArray, List.set_cons_zero, List.set_cons_succ, i64_w, i32_w]
                rfl
              refine pure_ (i := 4) (N := some 63) (v := ?_) (a' := ?_) #[false, true, true, true, true, false, false, false] rfl rfl (any_of HT_.out (by kernel_rfl)) (fun _ _ _ h => h) (Or.inl ⟨by rfl, ?_⟩) ?_ ?_
              rotate_left
              · intro w'
                go_simp
                with_reducible rfl
              rotate_left
              · simp only [Act.put, List.setIfInBounds_toArray, List.set_cons_zero, List.set_cons_succ, i64_w, i32_w]
                rfl
              refine pure_ (i := 5) (N := some 64) (v := ?_) (a' := ?_) #[false, true, true, true, true, true, false, false] rfl rfl (any_of HT_.out (by kernel_rfl)) (fun _ _ _ h => h) (Or.inl ⟨by rfl, ?_⟩) ?_ ?_
              rotate_left
              · intro w'
                go_simp
                with_reducible rfl
              rotate_left
              · simp only [Act.put, List.setIfInBounds_toArray, List.set_cons_zero, List.set_cons_succ, i64_w, i32_w]
                rfl
              refine take_ (i := 0) (N := some 59) (v := ?_) (a' := ?_) #[true, true, true, true, true, true, false, false] rfl rfl (take_ofW HT_.out HW_.out (by kernel_rfl)) (fun _ _ _ h => h) (Or.inl ⟨by rfl, ?_⟩) hHeld ?_ ?_
              rotate_left
              · rintro w' ⟨s0, s1, s2⟩
                go_simp
                with_reducible rfl
              rotate_left
              · simp only [Act.put, List.setIfInBounds_toArray, List.set_cons_zero, List.set_cons_succ, i64_w, i32_w]
                rfl
              refine one_ (i := 6) (N := some 65) #[true, true, true, true, true, true, true, false] rfl rfl (one_of HT_.out (by kernel_rfl)) (by decide) (fun K hK => ?_)
              refine goes_ Tryd.func107 (by kernel_rfl) rfl #[.agg #[.int .i64 a0_0, .int .i64 a0_1, .int .i64 a0_2], .int .u64 t522, .int .i64 (wrap64 ((wrap64 (t523 - t525)) + t526)), .int .u64 ji55] (by rfl) rfl rfl (by (try simp only [List.map_toArray, List.map_cons, List.map_nil]); first | done | (simp only [hji55]; rfl) | rfl | (simp only [List.length_drop, List.length_take]; rfl)) ?_
              with_reducible refine (flt_format_join.calls a0_0 a0_1 a0_2 t522 (wrap64 ((wrap64 (t523 - t525)) + t526)) ji55 t532 _ A56.out).mono ?_
              rintro e w58 ⟨rfl, hb⟩
              refine ⟨_, rfl, ?_⟩
              have n0_ := Aside0.mk (blk_below (g := gb517) (o := .cells #[.int .i64 a0_0, .int .i64 a0_1, .int .i64 a0_2] 84 (0, 0)) (by (with_reducible repeat (first | refine blk_drewN ?_ _ | refine blk_drew ?_ | refine blk_alloc ?_ _)); exact BK517.out) hb)
              have n1_ := Aside0.mk (blk_below (g := gb521) (o := .cells #[.int .i64 t518, .int .i64 t519, .int .i64 t520] 84 (0, 0)) (by (with_reducible repeat (first | refine blk_drewN ?_ _ | refine blk_drew ?_ | refine blk_alloc ?_ _)); exact BK521.out) hb)
              have n2_ := Aside0.mk (below_step (by repeat (first | (with_reducible first | exact HB.out | apply below_alloc | apply pw_below_drewN | apply below_drew1 | refine below_set ?_ GE517.out | refine below_set ?_ GE521.out) | exact HB.out)) hb)
              clear BK517
              clear BK521
              clear HB
              have BK517 := n0_
              have BK521 := n1_
              have HB := n2_
              clear n0_ n1_ n2_
              (try clear hb)
              (try clear hb2)
              (try clear hk)
              (try clear hi)
              refine hK.out _ _ ⟨(blk_cell BK517.out 0).trans rfl, (blk_cell BK517.out 1).trans rfl, (blk_cell BK517.out 2).trans rfl⟩ (fun hHeld => ?_)
              clear hK K
              refine norm_ (a' := ?_) ?_ ?_
              rotate_left
              · show Act.put _ (some 65) _ = _
                simp only [Act.put, List.setIfInBounds_toArray, List.set_cons_zero, List.set_cons_succ, i64_w, i32_w]
                rfl
              refine pure_ (i := 7) (N := some 4) (v := ?_) (a' := ?_) #[true, true, true, true, true, true, true, true] rfl rfl (any_of HT_.out (by kernel_rfl)) (fun _ _ _ h => h) (Or.inl ⟨by rfl, ?_⟩) ?_ ?_
              rotate_left
              · intro w'
                go_simp
                with_reducible rfl
              rotate_left
              · simp only [Act.put, List.setIfInBounds_toArray, List.set_cons_zero, List.set_cons_succ, i64_w, i32_w]
                rfl
              refine done_ (done_of HT_.out (by kernel_rfl)) ?_
              try go_wp2
              go_ret
              exact ⟨by first | rfl | (simp [errW_none, errW_some] <;> rfl) | (simp only [← hji53, ← hji55]; first | rfl | (simp [errW_none, errW_some] <;> rfl)) | (simp [*, errW_none, errW_some] <;> rfl), by repeat (first | (with_reducible first | exact HB.out | apply below_alloc | apply pw_below_drewN | apply below_drew1 | refine below_set ?_ GE517.out | refine below_set ?_ GE521.out) | exact HB.out)⟩
            · rw [if_neg c54] at H
              exact absurd H (by simp)
          · rw [if_neg c52] at H
            have c52b0 : decide (0 < (wrap64 ((wrap64 (t523 - t525)) + t526))) = false := decide_eq_false c52
            clear c52
            by_cases c59 : 0 ≤ t520
            · rw [if_pos c59] at H
              have c59b0 := eq_true c59
              have c59b1 : decide (0 ≤ t520) = true := decide_eq_true c59
              clear c59
              obtain ⟨ji60, hji60⟩ : ∃ j_ : Int, (shl .u64 1 t520) = j_ := ⟨_, rfl⟩
              replace H : (if 0 ≤ (mn (wrap64 ((wrap64 ((wrap64 (t520 - a0_2)) + 1)) - (wrap64 ((wrap64 (t523 - t525)) + t526)))) 63) then ((flt_format_join.f a0_0 a0_1 a0_2 t522 0 ((Go.bits .or .u64 (ji60) t524) / 2 ^ (mn (wrap64 ((wrap64 ((wrap64 (t520 - a0_2)) + 1)) - (wrap64 ((wrap64 (t523 - t525)) + t526)))) 63).toNat)).bind fun t533 => (some t533)) else (none)) = some r := by first | (rw [hji60] at H; exact H) | (simp only [hji60] at H ⊢; exact H)
              have hji60_ : (IntKind.u64.wrap (1 * 2 ^ min t520.toNat 64)) = ji60 := hji60
              have hji60z : t520 ≤ 64 → (IntKind.u64.wrap (1 * 2 ^ t520.toNat)) = ji60 := shl_small hji60
              have hji60u : (IntKind.u64.wrap (2 ^ min t520.toNat 64)) = ji60 := by have h_ := hji60_; rw [Int.one_mul] at h_; exact h_
              have hji60v : t520 ≤ 64 → (IntKind.u64.wrap (2 ^ t520.toNat)) = ji60 := fun hle_ => by have h_ := hji60z hle_; rw [Int.one_mul] at h_; exact h_
              obtain ⟨ji61, hji61⟩ : ∃ j_ : Int, (mn (wrap64 ((wrap64 ((wrap64 (t520 - a0_2)) + 1)) - (wrap64 ((wrap64 (t523 - t525)) + t526)))) 63) = j_ := ⟨_, rfl⟩
              replace H : (if 0 ≤ (ji61) then ((flt_format_join.f a0_0 a0_1 a0_2 t522 0 ((Go.bits .or .u64 (ji60) t524) / 2 ^ (ji61).toNat)).bind fun t533 => (some t533)) else (none)) = some r := by first | (rw [hji61] at H; exact H) | (simp only [hji61] at H ⊢; exact H)
              have hji61_ : (if 63 < (wrap64 ((wrap64 ((wrap64 (t520 - a0_2)) + 1)) - (wrap64 ((wrap64 (t523 - t525)) + t526)))) then 63 else (wrap64 ((wrap64 ((wrap64 (t520 - a0_2)) + 1)) - (wrap64 ((wrap64 (t523 - t525)) + t526))))) = ji61 := hji61
              by_cases c62 : 0 ≤ (ji61)
              · rw [if_pos c62] at H
                have c62b0 := eq_true c62
                have c62b1 : decide (0 ≤ (ji61)) = true := decide_eq_true c62
                clear c62
                replace H := Option.bind_eq_some_iff.mp H
                obtain ⟨t533, A630, H⟩ := H
                replace H : (some t533) = some r := H
                have A63 := Aside0.mk A630
                clear A630
                obtain rfl := Option.some.inj H
                try go_wp2
                have n0_ := Aside0.mk (blk_drew BK517.out)
                have n1_ := Aside0.mk (blk_drew BK521.out)
                have n2_ := Aside0.mk (below_drew1 HB.out)
                clear BK517
                clear BK521
                clear HB
                have BK517 := n0_
                have BK521 := n1_
                have HB := n2_
                clear n0_ n1_ n2_
                refine start_ (n := 15) (S := fun w' => w'.cell? ⟨gb517, 0, none⟩ = some (.int .i64 a0_0) ∧ w'.cell? ⟨gb517, 1, none⟩ = some (.int .i64 a0_1) ∧ w'.cell? ⟨gb517, 2, none⟩ = some (.int .i64 a0_2) ∧ w'.cell? ⟨gb521, 0, none⟩ = some (.int .i64 t518) ∧ w'.cell? ⟨gb521, 1, none⟩ = some (.int .i64 t519) ∧ w'.cell? ⟨gb521, 2, none⟩ = some (.int .i64 t520)) (ds := []) #[false, false, false, false, false, false, false, false, false, false, false, false, false, false, false] (by kernel_rfl) rfl rfl ⟨(blk_cell BK517.out 0).trans rfl, (blk_cell BK517.out 1).trans rfl, (blk_cell BK517.out 2).trans rfl, (blk_cell BK521.out 0).trans rfl, (blk_cell BK521.out 1).trans rfl, (blk_cell BK521.out 2).trans rfl⟩ (fun hHeld => ?_); refine with_tabW flt_format_narrow.tab11 flt_format_narrow.bits11 (fun HT_ HW_ => ?_)
                generalize wc.drew = w64 at BK517 BK521 HB hHeld ⊢
                refine pure_ (i := 1) (N := some 67) (v := ?_) (a' := ?_) #[false, true, false, false, false, false, false, false, false, false, false, false, false, false, false] rfl rfl (any_of HT_.out (by kernel_rfl)) (fun _ _ _ h => h) (Or.inl ⟨by rfl, ?_⟩) ?_ ?_
                rotate_left
                · intro w'
                  go_simp
                  with_reducible rfl
                rotate_left
                · simp only [Act.put, List.setIfInBounds_toArray, List.set_cons_zero, List.set_cons_succ, i64_w, i32_w]
                  rfl
                refine pure_ (i := 2) (N := some 68) (v := ?_) (a' := ?_) #[false, true, true, false, false, false, false, false, false, false, false, false, false, false, false] rfl rfl (any_of HT_.out (by kernel_rfl)) (fun _ _ _ h => h) (Or.inl ⟨by rfl, ?_⟩) ?_ ?_
                rotate_left
                · intro w'
                  go_simp
                  with_reducible rfl
                rotate_left
                · simp only [Act.put, List.setIfInBounds_toArray, List.set_cons_zero, List.set_cons_succ, i64_w, i32_w]
                  rfl
                refine pure_ (i := 5) (N := some 71) (v := ?_) (a' := ?_) #[false, true, true, false, false, true, false, false, false, false, false, false, false, false, false] rfl rfl (any_of HT_.out (by kernel_rfl)) (fun _ _ _ h => h) (Or.inl ⟨by rfl, ?_⟩) ?_ ?_
                rotate_left
                · intro w'
                  go_simp
                  with_reducible rfl
                rotate_left
                · simp only [Act.put, List.setIfInBounds_toArray, List.set_cons_zero, List.set_cons_succ, i64_w, i32_w]
                  rfl
                refine pure_ (i := 7) (N := some 73) (v := ?_) (a' := ?_) #[false, true, true, false, false, true, false, true, false, false, false, false, false, false, false] rfl rfl (any_of HT_.out (by kernel_rfl)) (fun _ _ _ h => h) (Or.inl ⟨by rfl, ?_⟩) ?_ ?_
                rotate_left
                · intro w'
                  go_simp
                  with_reducible rfl
                rotate_left
                · simp only [Act.put, List.setIfInBounds_toArray, List.set_cons_zero, List.set_cons_succ, i64_w, i32_w]
                  rfl
                refine pure_ (i := 8) (N := some 74) (v := ?_) (a' := ?_) #[false, true, true, false, false, true, false, true, true, false, false, false, false, false, false] rfl rfl (any_of HT_.out (by kernel_rfl)) (fun _ _ _ h => h) (Or.inl ⟨by rfl, ?_⟩) ?_ ?_
                rotate_left
                · intro w'
                  go_simp
                  with_reducible rfl
                rotate_left
                · simp only [Act.put, List.setIfInBounds_toArray, List.set_cons_zero, List.set_cons_succ, i64_w, i32_w]
                  rfl
                refine pure_ (i := 9) (N := some 75) (v := ?_) (a' := ?_) #[false, true, true, false, false, true, false, true, true, true, false, false, false, false, false] rfl rfl (any_of HT_.out (by kernel_rfl)) (fun _ _ _ h => h) (Or.inl ⟨by rfl, ?_⟩) ?_ ?_
                rotate_left
                · intro w'
                  go_simp
                  with_reducible rfl
                rotate_left
                · simp only [Act.put, List.setIfInBounds_toArray, List.set_cons_zero, List.set_cons_succ, i64_w, i32_w]
                  rfl
                refine pure_ (i := 10) (N := some 76) (v := ?_) (a' := ?_) #[false, true, true, false, false, true, false, true, true, true, true, false, false, false, false] rfl rfl (any_of HT_.out (by kernel_rfl)) (fun _ _ _ h => h) (Or.inl ⟨by rfl, ?_⟩) ?_ ?_
                rotate_left
                · intro w'
                  go_simp
                  with_reducible rfl
                rotate_left
                · simp only [Act.put, List.setIfInBounds_toArray, List.set_cons_zero, List.set_cons_succ, i64_w, i32_w]
                  rfl
                refine pure_ (i := 11) (N := some 77) (v := ?_) (a' := ?_) #[false, true, true, false, false, true, false, true, true, true, true, true, false, false, false] rfl rfl (any_of HT_.out (by kernel_rfl)) (fun _ _ _ h => h) (Or.inl ⟨by rfl, ?_⟩) ?_ ?_
                rotate_left
                · intro w'
                  go_simp
                  with_reducible rfl
                rotate_left
                · simp only [Act.put, List.setIfInBounds_toArray, List.set_cons_zero, List.set_cons_succ, i64_w, i32_w]
                  rfl
                refine take_ (i := 0) (N := some 66) (v := ?_) (a' := ?_) #[true, true, true, false, false, true, false, true, true, true, true, true, false, false, false] rfl rfl (take_ofW HT_.out HW_.out (by kernel_rfl)) (fun _ _ _ h => h) (Or.inl ⟨by rfl, ?_⟩) hHeld ?_ ?_
                rotate_left
                · rintro w' ⟨s0, s1, s2, s3, s4, s5⟩
                  go_simp
                  with_reducible rfl
                rotate_left
                · simp only [Act.put, List.setIfInBounds_toArray, List.set_cons_zero, List.set_cons_succ, i64_w, i32_w]
                  rfl
                refine take_ (i := 3) (N := some 69) (v := ?_) (a' := ?_) #[true, true, true, true, false, true, false, true, true, true, true, true, false, false, false] rfl rfl (take_ofW HT_.out HW_.out (by kernel_rfl)) (fun _ _ _ h => h) (Or.inl ⟨by rfl, ?_⟩) hHeld ?_ ?_
                rotate_left
                · rintro w' ⟨s0, s1, s2, s3, s4, s5⟩
                  go_simp
                  with_reducible rfl
                rotate_left
                · simp only [Act.put, List.setIfInBounds_toArray, List.set_cons_zero, List.set_cons_succ, i64_w, i32_w]
                  rfl
                refine pure_ (i := 4) (N := some 70) (v := ?_) (a' := ?_) #[true, true, true, true, true, true, false, true, true, true, true, true, false, false, false] rfl rfl (any_of HT_.out (by kernel_rfl)) (fun _ _ _ h => h) (Or.inl ⟨by rfl, ?_⟩) ?_ ?_
                rotate_left
                · intro w'
                  go_simp
                  with_reducible rfl
                rotate_left
                · simp only [Act.put, List.setIfInBounds_toArray, List.set_cons_zero, List.set_cons_succ, i64_w, i32_w]
                  rfl
                refine pure_ (i := 6) (N := some 72) (v := ?_) (a' := ?_) #[true, true, true, true, true, true, true, true, true, true, true, true, false, false, false] rfl rfl (any_of HT_.out (by kernel_rfl)) (fun _ _ _ h => h) (Or.inl ⟨by rfl, ?_⟩) ?_ ?_
                rotate_left
                · intro w'
                  go_simp
                  with_reducible rfl
                rotate_left
                · simp only [Act.put, List.setIfInBounds_toArray, List.set_cons_zero, List.set_cons_succ, i64_w, i32_w]
                  rfl
                refine pure_ (i := 12) (N := some 78) (v := ?_) (a' := ?_) #[true, true, true, true, true, true, true, true, true, true, true, true, true, false, false] rfl rfl (any_of HT_.out (by kernel_rfl)) (fun _ _ _ h => h) (Or.inl ⟨by rfl, ?_⟩) ?_ ?_
                rotate_left
                · intro w'
                  go_simp
                  with_reducible rfl
                rotate_left
                · simp only [Act.put, List.setIfInBounds_toArray, List.set_cons_zero, List.set_cons_succ, i64_w, i32_w]
                  rfl
                refine one_ (i := 13) (N := some 79) #[true, true, true, true, true, true, true, true, true, true, true, true, true, true, false] rfl rfl (one_of HT_.out (by kernel_rfl)) (by decide) (fun K hK => ?_)
                refine goes_ Tryd.func107 (by kernel_rfl) rfl #[.agg #[.int .i64 a0_0, .int .i64 a0_1, .int .i64 a0_2], .int .u64 t522, .int .i64 0, .int .u64 ((Go.bits .or .u64 (ji60) t524) / 2 ^ (ji61).toNat)] (by rfl) rfl rfl (by (try simp only [List.map_toArray, List.map_cons, List.map_nil]); first | done | (simp only [hji60, hji61]; rfl) | rfl | (have hm_ : min ji61.toNat 64 = ji61.toNat := by { have h_ := hji61_; split at h_ <;> omega }; simp only [hm_]; rfl) | (simp only [List.length_drop, List.length_take]; rfl)) ?_
                with_reducible refine (flt_format_join.calls a0_0 a0_1 a0_2 t522 0 ((Go.bits .or .u64 (ji60) t524) / 2 ^ (ji61).toNat) t533 _ A63.out).mono ?_
                rintro e w65 ⟨rfl, hb⟩
                refine ⟨_, rfl, ?_⟩
                have n0_ := Aside0.mk (blk_below (g := gb517) (o := .cells #[.int .i64 a0_0, .int .i64 a0_1, .int .i64 a0_2] 84 (0, 0)) (by (with_reducible repeat (first | refine blk_drewN ?_ _ | refine blk_drew ?_ | refine blk_alloc ?_ _)); exact BK517.out) hb)
                have n1_ := Aside0.mk (blk_below (g := gb521) (o := .cells #[.int .i64 t518, .int .i64 t519, .int .i64 t520] 84 (0, 0)) (by (with_reducible repeat (first | refine blk_drewN ?_ _ | refine blk_drew ?_ | refine blk_alloc ?_ _)); exact BK521.out) hb)
                have n2_ := Aside0.mk (below_step (by repeat (first | (with_reducible first | exact HB.out | apply below_alloc | apply pw_below_drewN | apply below_drew1 | refine below_set ?_ GE517.out | refine below_set ?_ GE521.out) | exact HB.out)) hb)
                clear BK517
                clear BK521
                clear HB
                have BK517 := n0_
                have BK521 := n1_
                have HB := n2_
                clear n0_ n1_ n2_
                (try clear hb)
                (try clear hb2)
                (try clear hk)
                (try clear hi)
                refine hK.out _ _ ⟨(blk_cell BK517.out 0).trans rfl, (blk_cell BK517.out 1).trans rfl, (blk_cell BK517.out 2).trans rfl, (blk_cell BK521.out 0).trans rfl, (blk_cell BK521.out 1).trans rfl, (blk_cell BK521.out 2).trans rfl⟩ (fun hHeld => ?_)
                clear hK K
                refine norm_ (a' := ?_) ?_ ?_
                rotate_left
                · show Act.put _ (some 79) _ = _
                  simp only [Act.put, List.setIfInBounds_toArray, List.set_cons_zero, List.set_cons_succ, i64_w, i32_w]
                  rfl
                refine pure_ (i := 14) (N := some 4) (v := ?_) (a' := ?_) #[true, true, true, true, true, true, true, true, true, true, true, true, true, true, true] rfl rfl (any_of HT_.out (by kernel_rfl)) (fun _ _ _ h => h) (Or.inl ⟨by rfl, ?_⟩) ?_ ?_
                rotate_left
                · intro w'
                  go_simp
                  with_reducible rfl
                rotate_left
                · simp only [Act.put, List.setIfInBounds_toArray, List.set_cons_zero, List.set_cons_succ, i64_w, i32_w]
                  rfl
                refine done_ (done_of HT_.out (by kernel_rfl)) ?_
                try go_wp2
                go_ret
                exact ⟨by first | rfl | (simp [errW_none, errW_some] <;> rfl) | (simp only [← hji60, ← hji61]; first | rfl | (simp [errW_none, errW_some] <;> rfl)) | (simp [*, errW_none, errW_some] <;> rfl), by repeat (first | (with_reducible first | exact HB.out | apply below_alloc | apply pw_below_drewN | apply below_drew1 | refine below_set ?_ GE517.out | refine below_set ?_ GE521.out) | exact HB.out)⟩
              · rw [if_neg c62] at H
                exact absurd H (by simp)
            · rw [if_neg c59] at H
              exact absurd H (by simp)
end Go.Proofs.YtfndkpifgmcomaaDoor.XD
end
