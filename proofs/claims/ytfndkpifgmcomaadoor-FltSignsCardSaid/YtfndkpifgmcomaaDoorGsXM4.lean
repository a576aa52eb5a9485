/- Part of this claim: X37, X42. -/
import Derived.Test.YtfndkpifgmcomaaDoorGsXM1
import Derived.Test.YtfndkpifgmcomaaDoorGsXM2
import Derived.Test.YtfndkpifgmcomaaDoorGsEFlt
section
namespace Go.Proofs.YtfndkpifgmcomaaDoor.XD
open Go.RowKit Go.Proofs.YtfndkpifgmcomaaDoorW.PrintWords Go.Proofs.YtfndkpifgmcomaaDoorW.PrintLast Go.Proofs.YtfndkpifgmcomaaDoorW.PrintMore
attribute [local go_sem] max2_int min2_int max_two min_two max_three min_three max_four min_four
set_option linter.unusedVariables false
set_option linter.unusedSimpArgs false
def gantlinelaw07_alive.f (k : Nat)  : Option (Bool) := (flt_Widen.f 15360 2).bind fun bt799 => ((flt_Narrow.f bt799.1).bind fun bt801 => ((flt_Exact.f k 4591870180066957722).bind fun bt803 => (if bt799.2 = 0 then (if bt799.1 = 4607182418800017408 then (if bt801.1 = 15360 then (if bt801.2 = 2 then (if bt803.2.2.2 = 0 then (if (bt803.2.1.size : Int) = 55 then (some (bt803.2.2.1 == (-55))) else (some false)) else (some false)) else (some false)) else (some false)) else (some false)) else (some false))))
set_option maxHeartbeats 8000000 in
set_option maxRecDepth 100000 in
theorem gantlinelaw07_alive.calls (k : Nat)  (r : Bool) (w : World) (h : gantlinelaw07_alive.f k  = some r) (hT_ : Tb w) :
    Calls Tryd.prog 27 #[] w fun e w' => e = .returned (.bool r) ∧ Below w.heap.size w w' := by
  have HT := Aside0.mk hT_
  clear hT_
  have hu46 := Tryd.underlying46
  have HB := Aside0.mk (Below.refl w.heap.size w)
  have H : ((flt_Widen.f 15360 2).bind fun bt799 => ((flt_Narrow.f bt799.1).bind fun bt801 => ((flt_Exact.f k 4591870180066957722).bind fun bt803 => (if bt799.2 = 0 then (if bt799.1 = 4607182418800017408 then (if bt801.1 = 15360 then (if bt801.2 = 2 then (if bt803.2.2.2 = 0 then (if (bt803.2.1.size : Int) = 55 then (some (bt803.2.2.1 == (-55))) else (some false)) else (some false)) else (some false)) else (some false)) else (some false)) else (some false))))) = some r := h
  clear h
  replace H := Option.bind_eq_some_iff.mp H
  obtain ⟨⟨t799, t800⟩, A10, H⟩ := H
  replace H : ((flt_Narrow.f t799).bind fun bt801 => ((flt_Exact.f k 4591870180066957722).bind fun bt803 => (if t800 = 0 then (if t799 = 4607182418800017408 then (if bt801.1 = 15360 then (if bt801.2 = 2 then (if bt803.2.2.2 = 0 then (if (bt803.2.1.size : Int) = 55 then (some (bt803.2.2.1 == (-55))) else (some false)) else (some false)) else (some false)) else (some false)) else (some false)) else (some false)))) = some r := H
  have A1 := Aside0.mk A10
  clear A10
  replace H := Option.bind_eq_some_iff.mp H
  obtain ⟨⟨t801, t802⟩, A20, H⟩ := H
  replace H : ((flt_Exact.f k 4591870180066957722).bind fun bt803 => (if t800 = 0 then (if t799 = 4607182418800017408 then (if t801 = 15360 then (if t802 = 2 then (if bt803.2.2.2 = 0 then (if (bt803.2.1.size : Int) = 55 then (some (bt803.2.2.1 == (-55))) else (some false)) else (some false)) else (some false)) else (some false)) else (some false)) else (some false))) = some r := H
  have A2 := Aside0.mk A20
  clear A20
  replace H := Option.bind_eq_some_iff.mp H
  obtain ⟨⟨t803, t804, t805, t806⟩, A30, H⟩ := H
  replace H : (if t800 = 0 then (if t799 = 4607182418800017408 then (if t801 = 15360 then (if t802 = 2 then (if t806 = 0 then (if (t804.size : Int) = 55 then (some (t805 == (-55))) else (some false)) else (some false)) else (some false)) else (some false)) else (some false)) else (some false)) = some r := H
  have A3 := Aside0.mk A30
  clear A30
  by_cases c4 : t800 = 0
  · rw [if_pos c4] at H
    have c4b0 : (t800 == 0) = true := beq_iff_eq.mpr c4
    have c4b1 : (t800 != 0) = false := bne_eq_false_iff_eq.mpr c4
    clear c4
    by_cases c5 : t799 = 4607182418800017408
    · rw [if_pos c5] at H
      have c5b0 : (t799 == 4607182418800017408) = true := beq_iff_eq.mpr c5
      have c5b1 : (t799 != 4607182418800017408) = false := bne_eq_false_iff_eq.mpr c5
      clear c5
      by_cases c6 : t801 = 15360
      · rw [if_pos c6] at H
        have c6b0 : (t801 == 15360) = true := beq_iff_eq.mpr c6
        have c6b1 : (t801 != 15360) = false := bne_eq_false_iff_eq.mpr c6
        clear c6
        by_cases c7 : t802 = 2
        · rw [if_pos c7] at H
          have c7b0 : (t802 == 2) = true := beq_iff_eq.mpr c7
          have c7b1 : (t802 != 2) = false := bne_eq_false_iff_eq.mpr c7
          clear c7
          by_cases c8 : t806 = 0
          · rw [if_pos c8] at H
            have c8b0 : (t806 == 0) = true := beq_iff_eq.mpr c8
            have c8b1 : (t806 != 0) = false := bne_eq_false_iff_eq.mpr c8
            clear c8
            by_cases c9 : (t804.size : Int) = 55
            · rw [if_pos c9] at H
              have c9b0 : ((t804.size : Int) == 55) = true := beq_iff_eq.mpr c9
              have c9b1 : ((t804.size : Int) != 55) = false := bne_eq_false_iff_eq.mpr c9
              clear c9
              obtain rfl := Option.some.inj H
              go_enter Tryd.func27, Tryd.ntmps27
              go_wp2_with (first | ((with_reducible refine gate_callee (f := 25) rfl ?_); refine goesL_ (some 8) rfl rfl Tryd.func25 (by kernel_rfl) rfl #[.int .u64 15360, .int .i64 2] rfl (by (try simp only [List.map_toArray, List.map_cons, List.map_nil]); first | done | rfl | (simp only [List.length_drop, List.length_take]; rfl)) ?_; (with_reducible refine (flt_Widen.calls 15360 2 t799 t800 _ A1.out).mono ?_); rintro e w10 ⟨rfl, hb⟩; refine ⟨_, rfl, ?_⟩; have n0_ := Aside0.mk (below_step (by repeat (first | (with_reducible first | exact HB.out | apply below_alloc | apply pw_below_drewN | apply below_drew1) | exact HB.out)) hb); clear HB; have HB := n0_; clear n0_; (try clear hb); (try clear hb2); (try clear hk); (try clear hi)) | ((with_reducible refine gate_callee (f := 28) rfl ?_); refine goesL_ (some 13) rfl rfl Tryd.func28 (by kernel_rfl) rfl #[.int .u64 t799] rfl (by (try simp only [List.map_toArray, List.map_cons, List.map_nil]); first | done | rfl | (simp only [List.length_drop, List.length_take]; rfl)) ?_; (with_reducible refine (flt_Narrow.calls t799 t801 t802 _ A2.out).mono ?_); rintro e w11 ⟨rfl, hb⟩; refine ⟨_, rfl, ?_⟩; have n0_ := Aside0.mk (below_step (by repeat (first | (with_reducible first | exact HB.out | apply below_alloc | apply pw_below_drewN | apply below_drew1) | exact HB.out)) hb); clear HB; have HB := n0_; clear n0_; (try clear hb); (try clear hb2); (try clear hk); (try clear hi)) | ((with_reducible refine gate_callee (f := 30) rfl ?_); refine goesL_ (some 17) rfl rfl Tryd.func30 (by kernel_rfl) rfl #[.int .u64 4591870180066957722] rfl (by (try simp only [List.map_toArray, List.map_cons, List.map_nil]); first | done | rfl | (simp only [List.length_drop, List.length_take]; rfl)) ?_; (with_reducible refine (flt_Exact.calls k 4591870180066957722 t803 t804 t805 t806 _ A3.out (tb_below (by repeat (first | (with_reducible first | exact HB.out | apply below_alloc | apply pw_below_drewN | apply below_drew1) | exact HB.out)) HT.out)).mono ?_); rintro e w12 ⟨rfl, hb⟩; refine ⟨_, rfl, ?_⟩; have n0_ := Aside0.mk (below_step (by repeat (first | (with_reducible first | exact HB.out | apply below_alloc | apply pw_below_drewN | apply below_drew1) | exact HB.out)) hb); clear HB; have HB := n0_; clear n0_; (try clear hb); (try clear hb2); (try clear hk); (try clear hi)) | ((with_reducible refine gate_dst (N := 5) rfl ?_); (try (refine gate_guard (by rfl) ?_; dsimp only)); refine box_event ?hg (N := 5) ?hd (cs := #[.bool false, .string (⟨#[]⟩ : ByteArray), .int .i64 0]) (t := 46) ?hr ?_; (case hd => rfl); (case hg => rfl); (case hr => first | (go_simp; done) | (go_simp; rfl)); intro gb807 hg w13 hbox hb; have n0_ := Aside0.mk (below_step (by repeat (first | (with_reducible first | exact HB.out | apply below_alloc | apply pw_below_drewN | apply below_drew1) | exact HB.out)) hb); have n1_ := Aside0.mk (hbox); have n2_ := Aside0.mk ((by rw [hg]; exact (below_size (by repeat (first | (with_reducible first | exact HB.out | apply below_alloc | apply pw_below_drewN | apply below_drew1) | exact HB.out))) : w.heap.size ≤ gb807)); have n3_ := Aside0.mk ((by rw [hg]; exact (below_size (by repeat (first | (with_reducible first | exact HB.out | apply below_alloc | apply pw_below_drewN | apply below_drew1) | exact HB.out))) : w.heap.size ≤ gb807)); clear HB; have HB := n0_; have BK807 := n1_; have GW807 := n2_; have GE807 := n3_; clear n0_ n1_ n2_ n3_; clear hb hbox hg; have hcz14_0 : w13.cell? ⟨gb807, 0, none⟩ = some (.bool false) := (blk_cell BK807.out 0).trans rfl; have hcz14_1 : w13.cell? ⟨gb807, 1, none⟩ = some (.string (⟨#[]⟩ : ByteArray)) := (blk_cell BK807.out 1).trans rfl; have hcz14_2 : w13.cell? ⟨gb807, 2, none⟩ = some (.int .i64 0) := (blk_cell BK807.out 2).trans rfl; have hfz14_0 := blk_frozen BK807.out 0; have hfz14_1 := blk_frozen BK807.out 1; have hfz14_2 := blk_frozen BK807.out 2))
              go_ret
              exact ⟨by first | rfl | (simp [errW_none, errW_some] <;> rfl) | (simp [*, errW_none, errW_some] <;> rfl), by repeat (first | (with_reducible first | exact HB.out | apply below_alloc | apply pw_below_drewN | apply below_drew1 | refine below_set ?_ GE807.out) | exact HB.out)⟩
            · rw [if_neg c9] at H
              have c9b0 : ((t804.size : Int) == 55) = false := beq_eq_false_iff_ne.mpr c9
              have c9b1 : ((t804.size : Int) != 55) = true := bne_iff_ne.mpr c9
              obtain rfl := Option.some.inj H
              go_enter Tryd.func27, Tryd.ntmps27
              go_wp2_with (first | ((with_reducible refine gate_callee (f := 25) rfl ?_); refine goesL_ (some 8) rfl rfl Tryd.func25 (by kernel_rfl) rfl #[.int .u64 15360, .int .i64 2] rfl (by (try simp only [List.map_toArray, List.map_cons, List.map_nil]); first | done | rfl | (simp only [List.length_drop, List.length_take]; rfl)) ?_; (with_reducible refine (flt_Widen.calls 15360 2 t799 t800 _ A1.out).mono ?_); rintro e w15 ⟨rfl, hb⟩; refine ⟨_, rfl, ?_⟩; have n0_ := Aside0.mk (below_step (by repeat (first | (with_reducible first | exact HB.out | apply below_alloc | apply pw_below_drewN | apply below_drew1) | exact HB.out)) hb); clear HB; have HB := n0_; clear n0_; (try clear hb); (try clear hb2); (try clear hk); (try clear hi)) | ((with_reducible refine gate_callee (f := 28) rfl ?_); refine goesL_ (some 13) rfl rfl Tryd.func28 (by kernel_rfl) rfl #[.int .u64 t799] rfl (by (try simp only [List.map_toArray, List.map_cons, List.map_nil]); first | done | rfl | (simp only [List.length_drop, List.length_take]; rfl)) ?_; (with_reducible refine (flt_Narrow.calls t799 t801 t802 _ A2.out).mono ?_); rintro e w16 ⟨rfl, hb⟩; refine ⟨_, rfl, ?_⟩; have n0_ := Aside0.mk (below_step (by repeat (first | (with_reducible first | exact HB.out | apply below_alloc | apply pw_below_drewN | apply below_drew1) | exact HB.out)) hb); clear HB; have HB := n0_; clear n0_; (try clear hb); (try clear hb2); (try clear hk); (try clear hi)) | ((with_reducible refine gate_callee (f := 30) rfl ?_); refine goesL_ (some 17) rfl rfl Tryd.func30 (by kernel_rfl) rfl #[.int .u64 4591870180066957722] rfl (by (try simp only [List.map_toArray, List.map_cons, List.map_nil]); first | done | rfl | (simp only [List.length_drop, List.length_take]; rfl)) ?_; (with_reducible refine (flt_Exact.calls k 4591870180066957722 t803 t804 t805 t806 _ A3.out (tb_below (by repeat (first | (with_reducible first | exact HB.out | apply below_alloc | apply pw_below_drewN | apply below_drew1) | exact HB.out)) HT.out)).mono ?_); rintro e w17 ⟨rfl, hb⟩; refine ⟨_, rfl, ?_⟩; have n0_ := Aside0.mk (below_step (by repeat (first | (with_reducible first | exact HB.out | apply below_alloc | apply pw_below_drewN | apply below_drew1) | exact HB.out)) hb); clear HB; have HB := n0_; clear n0_; (try clear hb); (try clear hb2); (try clear hk); (try clear hi)) | ((with_reducible refine gate_dst (N := 5) rfl ?_); (try (refine gate_guard (by rfl) ?_; dsimp only)); refine box_event ?hg (N := 5) ?hd (cs := #[.bool false, .string (⟨#[]⟩ : ByteArray), .int .i64 0]) (t := 46) ?hr ?_; (case hd => rfl); (case hg => rfl); (case hr => first | (go_simp; done) | (go_simp; rfl)); intro gb807 hg w18 hbox hb; have n0_ := Aside0.mk (below_step (by repeat (first | (with_reducible first | exact HB.out | apply below_alloc | apply pw_below_drewN | apply below_drew1) | exact HB.out)) hb); have n1_ := Aside0.mk (hbox); have n2_ := Aside0.mk ((by rw [hg]; exact (below_size (by repeat (first | (with_reducible first | exact HB.out | apply below_alloc | apply pw_below_drewN | apply below_drew1) | exact HB.out))) : w.heap.size ≤ gb807)); have n3_ := Aside0.mk ((by rw [hg]; exact (below_size (by repeat (first | (with_reducible first | exact HB.out | apply below_alloc | apply pw_below_drewN | apply below_drew1) | exact HB.out))) : w.heap.size ≤ gb807)); clear HB; have HB := n0_; have BK807 := n1_; have GW807 := n2_; have GE807 := n3_; clear n0_ n1_ n2_ n3_; clear hb hbox hg; have hcz19_0 : w18.cell? ⟨gb807, 0, none⟩ = some (.bool false) := (blk_cell BK807.out 0).trans rfl; have hcz19_1 : w18.cell? ⟨gb807, 1, none⟩ = some (.string (⟨#[]⟩ : ByteArray)) := (blk_cell BK807.out 1).trans rfl; have hcz19_2 : w18.cell? ⟨gb807, 2, none⟩ = some (.int .i64 0) := (blk_cell BK807.out 2).trans rfl; have hfz19_0 := blk_frozen BK807.out 0; have hfz19_1 := blk_frozen BK807.out 1; have hfz19_2 := blk_frozen BK807.out 2))
              go_ret
              exact ⟨by first | rfl | (simp [errW_none, errW_some] <;> rfl) | (simp [*, errW_none, errW_some] <;> rfl), by repeat (first | (with_reducible first | exact HB.out | apply below_alloc | apply pw_below_drewN | apply below_drew1 | refine below_set ?_ GE807.out) | exact HB.out)⟩
          · rw [if_neg c8] at H
            have c8b0 : (t806 == 0) = false := beq_eq_false_iff_ne.mpr c8
            have c8b1 : (t806 != 0) = true := bne_iff_ne.mpr c8
            obtain rfl := Option.some.inj H
            go_enter Tryd.func27, Tryd.ntmps27
            go_wp2_with (first | ((with_reducible refine gate_callee (f := 25) rfl ?_); refine goesL_ (some 8) rfl rfl Tryd.func25 (by kernel_rfl) rfl #[.int .u64 15360, .int .i64 2] rfl (by (try simp only [List.map_toArray, List.map_cons, List.map_nil]); first | done | rfl | (simp only [List.length_drop, List.length_take]; rfl)) ?_; (with_reducible refine (flt_Widen.calls 15360 2 t799 t800 _ A1.out).mono ?_); rintro e w20 ⟨rfl, hb⟩; refine ⟨_, rfl, ?_⟩; have n0_ := Aside0.mk (below_step (by repeat (first | (with_reducible first | exact HB.out | apply below_alloc | apply pw_below_drewN | apply below_drew1) | exact HB.out)) hb); clear HB; have HB := n0_; clear n0_; (try clear hb); (try clear hb2); (try clear hk); (try clear hi)) | ((with_reducible refine gate_callee (f := 28) rfl ?_); refine goesL_ (some 13) rfl rfl Tryd.func28 (by kernel_rfl) rfl #[.int .u64 t799] rfl (by (try simp only [List.map_toArray, List.map_cons, List.map_nil]); first | done | rfl | (simp only [List.length_drop, List.length_take]; rfl)) ?_; (with_reducible refine (flt_Narrow.calls t799 t801 t802 _ A2.out).mono ?_); rintro e w21 ⟨rfl, hb⟩; refine ⟨_, rfl, ?_⟩; have n0_ := Aside0.mk (below_step (by repeat (first | (with_reducible first | exact HB.out | apply below_alloc | apply pw_below_drewN | apply below_drew1) | exact HB.out)) hb); clear HB; have HB := n0_; clear n0_; (try clear hb); (try clear hb2); (try clear hk); (try clear hi)) | ((with_reducible refine gate_callee (f := 30) rfl ?_); refine goesL_ (some 17) rfl rfl Tryd.func30 (by kernel_rfl) rfl #[.int .u64 4591870180066957722] rfl (by (try simp only [List.map_toArray, List.map_cons, List.map_nil]); first | done | rfl | (simp only [List.length_drop, List.length_take]; rfl)) ?_; (with_reducible refine (flt_Exact.calls k 4591870180066957722 t803 t804 t805 t806 _ A3.out (tb_below (by repeat (first | (with_reducible first | exact HB.out | apply below_alloc | apply pw_below_drewN | apply below_drew1) | exact HB.out)) HT.out)).mono ?_); rintro e w22 ⟨rfl, hb⟩; refine ⟨_, rfl, ?_⟩; have n0_ := Aside0.mk (below_step (by repeat (first | (with_reducible first | exact HB.out | apply below_alloc | apply pw_below_drewN | apply below_drew1) | exact HB.out)) hb); clear HB; have HB := n0_; clear n0_; (try clear hb); (try clear hb2); (try clear hk); (try clear hi)) | ((with_reducible refine gate_dst (N := 5) rfl ?_); (try (refine gate_guard (by rfl) ?_; dsimp only)); refine box_event ?hg (N := 5) ?hd (cs := #[.bool false, .string (⟨#[]⟩ : ByteArray), .int .i64 0]) (t := 46) ?hr ?_; (case hd => rfl); (case hg => rfl); (case hr => first | (go_simp; done) | (go_simp; rfl)); intro gb807 hg w23 hbox hb; have n0_ := Aside0.mk (below_step (by repeat (first | (with_reducible first | exact HB.out | apply below_alloc | apply pw_below_drewN | apply below_drew1) | exact HB.out)) hb); have n1_ := Aside0.mk (hbox); have n2_ := Aside0.mk ((by rw [hg]; exact (below_size (by repeat (first | (with_reducible first | exact HB.out | apply below_alloc | apply pw_below_drewN | apply below_drew1) | exact HB.out))) : w.heap.size ≤ gb807)); have n3_ := Aside0.mk ((by rw [hg]; exact (below_size (by repeat (first | (with_reducible first | exact HB.out | apply below_alloc | apply pw_below_drewN | apply below_drew1) | exact HB.out))) : w.heap.size ≤ gb807)); clear HB; have HB := n0_; have BK807 := n1_; have GW807 := n2_; have GE807 := n3_; clear n0_ n1_ n2_ n3_; clear hb hbox hg; have hcz24_0 : w23.cell? ⟨gb807, 0, none⟩ = some (.bool false) := (blk_cell BK807.out 0).trans rfl; have hcz24_1 : w23.cell? ⟨gb807, 1, none⟩ = some (.string (⟨#[]⟩ : ByteArray)) := (blk_cell BK807.out 1).trans rfl; have hcz24_2 : w23.cell? ⟨gb807, 2, none⟩ = some (.int .i64 0) := (blk_cell BK807.out 2).trans rfl; have hfz24_0 := blk_frozen BK807.out 0; have hfz24_1 := blk_frozen BK807.out 1; have hfz24_2 := blk_frozen BK807.out 2))
            go_ret
            exact ⟨by first | rfl | (simp [errW_none, errW_some] <;> rfl) | (simp [*, errW_none, errW_some] <;> rfl), by repeat (first | (with_reducible first | exact HB.out | apply below_alloc | apply pw_below_drewN | apply below_drew1 | refine below_set ?_ GE807.out) | exact HB.out)⟩
        · rw [if_neg c7] at H
          have c7b0 : (t802 == 2) = false := beq_eq_false_iff_ne.mpr c7
          have c7b1 : (t802 != 2) = true := bne_iff_ne.mpr c7
          obtain rfl := Option.some.inj H
          go_enter Tryd.func27, Tryd.ntmps27
          go_wp2_with (first | ((with_reducible refine gate_callee (f := 25) rfl ?_); refine goesL_ (some 8) rfl rfl Tryd.func25 (by kernel_rfl) rfl #[.int .u64 15360, .int .i64 2] rfl (by (try simp only [List.map_toArray, List.map_cons, List.map_nil]); first | done | rfl | (simp only [List.length_drop, List.length_take]; rfl)) ?_; (with_reducible refine (flt_Widen.calls 15360 2 t799 t800 _ A1.out).mono ?_); rintro e w25 ⟨rfl, hb⟩; refine ⟨_, rfl, ?_⟩; have n0_ := Aside0.mk (below_step (by repeat (first | (with_reducible first | exact HB.out | apply below_alloc | apply pw_below_drewN | apply below_drew1) | exact HB.out)) hb); clear HB; have HB := n0_; clear n0_; (try clear hb); (try clear hb2); (try clear hk); (try clear hi)) | ((with_reducible refine gate_callee (f := 28) rfl ?_); refine goesL_ (some 13) rfl rfl Tryd.func28 (by kernel_rfl) rfl #[.int .u64 t799] rfl (by (try simp only [List.map_toArray, List.map_cons, List.map_nil]); first | done | rfl | (simp only [List.length_drop, List.length_take]; rfl)) ?_; (with_reducible refine (flt_Narrow.calls t799 t801 t802 _ A2.out).mono ?_); rintro e w26 ⟨rfl, hb⟩; refine ⟨_, rfl, ?_⟩; have n0_ := Aside0.mk (below_step (by repeat (first | (with_reducible first | exact HB.out | apply below_alloc | apply pw_below_drewN | apply below_drew1) | exact HB.out)) hb); clear HB; have HB := n0_; clear n0_; (try clear hb); (try clear hb2); (try clear hk); (try clear hi)) | ((with_reducible refine gate_callee (f := 30) rfl ?_); refine goesL_ (some 17) rfl rfl Tryd.func30 (by kernel_rfl) rfl #[.int .u64 4591870180066957722] rfl (by (try simp only [List.map_toArray, List.map_cons, List.map_nil]); first | done | rfl | (simp only [List.length_drop, List.length_take]; rfl)) ?_; (with_reducible refine (flt_Exact.calls k 4591870180066957722 t803 t804 t805 t806 _ A3.out (tb_below (by repeat (first | (with_reducible first | exact HB.out | apply below_alloc | apply pw_below_drewN | apply below_drew1) | exact HB.out)) HT.out)).mono ?_); rintro e w27 ⟨rfl, hb⟩; refine ⟨_, rfl, ?_⟩; have n0_ := Aside0.mk (below_step (by repeat (first | (with_reducible first | exact HB.out | apply below_alloc | apply pw_below_drewN | apply below_drew1) | exact HB.out)) hb); clear HB; have HB := n0_; clear n0_; (try clear hb); (try clear hb2); (try clear hk); (try clear hi)) | ((with_reducible refine gate_dst (N := 5) rfl ?_); (try (refine gate_guard (by rfl) ?_; dsimp only)); refine box_event ?hg (N := 5) ?hd (cs := #[.bool false, .string (⟨#[]⟩ : ByteArray), .int .i64 0]) (t := 46) ?hr ?_; (case hd => rfl); (case hg => rfl); (case hr => first | (go_simp; done) | (go_simp; rfl)); intro gb807 hg w28 hbox hb; have n0_ := Aside0.mk (below_step (by repeat (first | (with_reducible first | exact HB.out | apply below_alloc | apply pw_below_drewN | apply below_drew1) | exact HB.out)) hb); have n1_ := Aside0.mk (hbox); have n2_ := Aside0.mk ((by rw [hg]; exact (below_size (by repeat (first | (with_reducible first | exact HB.out | apply below_alloc | apply pw_below_drewN | apply below_drew1) | exact HB.out))) : w.heap.size ≤ gb807)); have n3_ := Aside0.mk ((by rw [hg]; exact (below_size (by repeat (first | (with_reducible first | exact HB.out | apply below_alloc | apply pw_below_drewN | apply below_drew1) | exact HB.out))) : w.heap.size ≤ gb807)); clear HB; have HB := n0_; have BK807 := n1_; have GW807 := n2_; have GE807 := n3_; clear n0_ n1_ n2_ n3_; clear hb hbox hg; have hcz29_0 : w28.cell? ⟨gb807, 0, none⟩ = some (.bool false) := (blk_cell BK807.out 0).trans rfl; have hcz29_1 : w28.cell? ⟨gb807, 1, none⟩ = some (.string (⟨#[]⟩ : ByteArray)) := (blk_cell BK807.out 1).trans rfl; have hcz29_2 : w28.cell? ⟨gb807, 2, none⟩ = some (.int .i64 0) := (blk_cell BK807.out 2).trans rfl; have hfz29_0 := blk_frozen BK807.out 0; have hfz29_1 := blk_frozen BK807.out 1; have hfz29_2 := blk_frozen BK807.out 2))
          go_ret
          exact ⟨by first | rfl | (simp [errW_none, errW_some] <;> rfl) | (simp [*, errW_none, errW_some] <;> rfl), by repeat (first | (with_reducible first | exact HB.out | apply below_alloc | apply pw_below_drewN | apply below_drew1 | refine below_set ?_ GE807.out) | exact HB.out)⟩
      · rw [if_neg c6] at H
        have c6b0 : (t801 == 15360) = false := beq_eq_false_iff_ne.mpr c6
        have c6b1 : (t801 != 15360) = true := bne_iff_ne.mpr c6
        obtain rfl := Option.some.inj H
        go_enter Tryd.func27, Tryd.ntmps27
        go_wp2_with (first | ((with_reducible refine gate_callee (f := 25) rfl ?_); refine goesL_ (some 8) rfl rfl Tryd.func25 (by kernel_rfl) rfl #[.int .u64 15360, .int .i64 2] rfl (by (try simp only [List.map_toArray, List.map_cons, List.map_nil]); first | done | rfl | (simp only [List.length_drop, List.length_take]; rfl)) ?_; (with_reducible refine (flt_Widen.calls 15360 2 t799 t800 _ A1.out).mono ?_); rintro e w30 ⟨rfl, hb⟩; refine ⟨_, rfl, ?_⟩; have n0_ := Aside0.mk (below_step (by repeat (first | (with_reducible first | exact HB.out | apply below_alloc | apply pw_below_drewN | apply below_drew1) | exact HB.out)) hb); clear HB; have HB := n0_; clear n0_; (try clear hb); (try clear hb2); (try clear hk); (try clear hi)) | ((with_reducible refine gate_callee (f := 28) rfl ?_); refine goesL_ (some 13) rfl rfl Tryd.func28 (by kernel_rfl) rfl #[.int .u64 t799] rfl (by (try simp only [List.map_toArray, List.map_cons, List.map_nil]); first | done | rfl | (simp only [List.length_drop, List.length_take]; rfl)) ?_; (with_reducible refine (flt_Narrow.calls t799 t801 t802 _ A2.out).mono ?_); rintro e w31 ⟨rfl, hb⟩; refine ⟨_, rfl, ?_⟩; have n0_ := Aside0.mk (below_step (by repeat (first | (with_reducible first | exact HB.out | apply below_alloc | apply pw_below_drewN | apply below_drew1) | exact HB.out)) hb); clear HB; have HB := n0_; clear n0_; (try clear hb); (try clear hb2); (try clear hk); (try clear hi)) | ((with_reducible refine gate_callee (f := 30) rfl ?_); refine goesL_ (some 17) rfl rfl Tryd.func30 (by kernel_rfl) rfl #[.int .u64 4591870180066957722] rfl (by (try simp only [List.map_toArray, List.map_cons, List.map_nil]); first | done | rfl | (simp only [List.length_drop, List.length_take]; rfl)) ?_; (with_reducible refine (flt_Exact.calls k 4591870180066957722 t803 t804 t805 t806 _ A3.out (tb_below (by repeat (first | (with_reducible first | exact HB.out | apply below_alloc | apply pw_below_drewN | apply below_drew1) | exact HB.out)) HT.out)).mono ?_); rintro e w32 ⟨rfl, hb⟩; refine ⟨_, rfl, ?_⟩; have n0_ := Aside0.mk (below_step (by repeat (first | (with_reducible first | exact HB.out | apply below_alloc | apply pw_below_drewN | apply below_drew1) | exact HB.out)) hb); clear HB; have HB := n0_; clear n0_; (try clear hb); (try clear hb2); (try clear hk); (try clear hi)) | ((with_reducible refine gate_dst (N := 5) rfl ?_); (try (refine gate_guard (by rfl) ?_; dsimp only)); refine box_event ?hg (N := 5) ?hd (cs := #[.bool false, .string (⟨#[]⟩ : ByteArray), .int .i64 0]) (t := 46) ?hr ?_; (case hd => rfl); (case hg => rfl); (case hr => first | (go_simp; done) | (go_simp; rfl)); intro gb807 hg w33 hbox hb; have n0_ := Aside0.mk (below_step (by repeat (first | (with_reducible first | exact HB.out | apply below_alloc | apply pw_below_drewN | apply below_drew1) | exact HB.out)) hb); have n1_ := Aside0.mk (hbox); have n2_ := Aside0.mk ((by rw [hg]; exact (below_size (by repeat (first | (with_reducible first | exact HB.out | apply below_alloc | apply pw_below_drewN | apply below_drew1) | exact HB.out))) : w.heap.size ≤ gb807)); have n3_ := Aside0.mk ((by rw [hg]; exact (below_size (by repeat (first | (with_reducible first | exact HB.out | apply below_alloc | apply pw_below_drewN | apply below_drew1) | exact HB.out))) : w.heap.size ≤ gb807)); clear HB; have HB := n0_; have BK807 := n1_; have GW807 := n2_; have GE807 := n3_; clear n0_ n1_ n2_ n3_; clear hb hbox hg; have hcz34_0 : w33.cell? ⟨gb807, 0, none⟩ = some (.bool false) := (blk_cell BK807.out 0).trans rfl; have hcz34_1 : w33.cell? ⟨gb807, 1, none⟩ = some (.string (⟨#[]⟩ : ByteArray)) := (blk_cell BK807.out 1).trans rfl; have hcz34_2 : w33.cell? ⟨gb807, 2, none⟩ = some (.int .i64 0) := (blk_cell BK807.out 2).trans rfl; have hfz34_0 := blk_frozen BK807.out 0; have hfz34_1 := blk_frozen BK807.out 1; have hfz34_2 := blk_frozen BK807.out 2))
        go_ret
        exact ⟨by first | rfl | (simp [errW_none, errW_some] <;> rfl) | (simp [*, errW_none, errW_some] <;> rfl), by repeat (first | (with_reducible first | exact HB.out | apply below_alloc | apply pw_below_drewN | apply below_drew1 | refine below_set ?_ GE807.out) | exact HB.out)⟩
    · rw [if_neg c5] at H
      have c5b0 : (t799 == 4607182418800017408) = false := beq_eq_false_iff_ne.mpr c5
      have c5b1 : (t799 != 4607182418800017408) = true := bne_iff_ne.mpr c5
      obtain rfl := Option.some.inj H
      go_enter Tryd.func27, Tryd.ntmps27
      go_wp2_with (first | ((with_reducible refine gate_callee (f := 25) rfl ?_); refine goesL_ (some 8) rfl rfl Tryd.func25 (by kernel_rfl) rfl #[.int .u64 15360, .int .i64 2] rfl (by (try simp only [List.map_toArray, List.map_cons, List.map_nil]); first | done | rfl | (simp only [List.length_drop, List.length_take]; rfl)) ?_; (with_reducible refine (flt_Widen.calls 15360 2 t799 t800 _ A1.out).mono ?_); rintro e w35 ⟨rfl, hb⟩; refine ⟨_, rfl, ?_⟩; have n0_ := Aside0.mk (below_step (by repeat (first | (with_reducible first | exact HB.out | apply below_alloc | apply pw_below_drewN | apply below_drew1) | exact HB.out)) hb); clear HB; have HB := n0_; clear n0_; (try clear hb); (try clear hb2); (try clear hk); (try clear hi)) | ((with_reducible refine gate_callee (f := 28) rfl ?_); refine goesL_ (some 13) rfl rfl Tryd.func28 (by kernel_rfl) rfl #[.int .u64 t799] rfl (by (try simp only [List.map_toArray, List.map_cons, List.map_nil]); first | done | rfl | (simp only [List.length_drop, List.length_take]; rfl)) ?_; (with_reducible refine (flt_Narrow.calls t799 t801 t802 _ A2.out).mono ?_); rintro e w36 ⟨rfl, hb⟩; refine ⟨_, rfl, ?_⟩; have n0_ := Aside0.mk (below_step (by repeat (first | (with_reducible first | exact HB.out | apply below_alloc | apply pw_below_drewN | apply below_drew1) | exact HB.out)) hb); clear HB; have HB := n0_; clear n0_; (try clear hb); (try clear hb2); (try clear hk); (try clear hi)) | ((with_reducible refine gate_callee (f := 30) rfl ?_); refine goesL_ (some 17) rfl rfl Tryd.func30 (by kernel_rfl) rfl #[.int .u64 4591870180066957722] rfl (by (try simp only [List.map_toArray, List.map_cons, List.map_nil]); first | done | rfl | (simp only [List.length_drop, List.length_take]; rfl)) ?_; (with_reducible refine (flt_Exact.calls k 4591870180066957722 t803 t804 t805 t806 _ A3.out (tb_below (by repeat (first | (with_reducible first | exact HB.out | apply below_alloc | apply pw_below_drewN | apply below_drew1) | exact HB.out)) HT.out)).mono ?_); rintro e w37 ⟨rfl, hb⟩; refine ⟨_, rfl, ?_⟩; have n0_ := Aside0.mk (below_step (by repeat (first | (with_reducible first | exact HB.out | apply below_alloc | apply pw_below_drewN | apply below_drew1) | exact HB.out)) hb); clear HB; have HB := n0_; clear n0_; (try clear hb); (try clear hb2); (try clear hk); (try clear hi)) | ((with_reducible refine gate_dst (N := 5) rfl ?_); (try (refine gate_guard (by rfl) ?_; dsimp only)); refine box_event ?hg (N := 5) ?hd (cs := #[.bool false, .string (⟨#[]⟩ : ByteArray), .int .i64 0]) (t := 46) ?hr ?_; (case hd => rfl); (case hg => rfl); (case hr => first | (go_simp; done) | (go_simp; rfl)); intro gb807 hg w38 hbox hb; have n0_ := Aside0.mk (below_step (by repeat (first | (with_reducible first | exact HB.out | apply below_alloc | apply pw_below_drewN | apply below_drew1) | exact HB.out)) hb); have n1_ := Aside0.mk (hbox); have n2_ := Aside0.mk ((by rw [hg]; exact (below_size (by repeat (first | (with_reducible first | exact HB.out | apply below_alloc | apply pw_below_drewN | apply below_drew1) | exact HB.out))) : w.heap.size ≤ gb807)); have n3_ := Aside0.mk ((by rw [hg]; exact (below_size (by repeat (first | (with_reducible first | exact HB.out | apply below_alloc | apply pw_below_drewN | apply below_drew1) | exact HB.out))) : w.heap.size ≤ gb807)); clear HB; have HB := n0_; have BK807 := n1_; have GW807 := n2_; have GE807 := n3_; clear n0_ n1_ n2_ n3_; clear hb hbox hg; have hcz39_0 : w38.cell? ⟨gb807, 0, none⟩ = some (.bool false) := (blk_cell BK807.out 0).trans rfl; have hcz39_1 : w38.cell? ⟨gb807, 1, none⟩ = some (.string (⟨#[]⟩ : ByteArray)) := (blk_cell BK807.out 1).trans rfl; have hcz39_2 : w38.cell? ⟨gb807, 2, none⟩ = some (.int .i64 0) := (blk_cell BK807.out 2).trans rfl; have hfz39_0 := blk_frozen BK807.out 0; have hfz39_1 := blk_frozen BK807.out 1; have hfz39_2 := blk_frozen BK807.out 2))
      go_ret
      exact ⟨by first | rfl | (simp [errW_none, errW_some] <;> rfl) | (simp [*, errW_none, errW_some] <;> rfl), by repeat (first | (with_reducible first | exact HB.out | apply below_alloc | apply pw_below_drewN | apply below_drew1 | refine below_set ?_ GE807.out) | exact HB.out)⟩
  · rw [if_neg c4] at H
    have c4b0 : (t800 == 0) = false := beq_eq_false_iff_ne.mpr c4
    have c4b1 : (t800 != 0) = true := bne_iff_ne.mpr c4
    obtain rfl := Option.some.inj H
    go_enter Tryd.func27, Tryd.ntmps27
    go_wp2_with (first | ((with_reducible refine gate_callee (f := 25) rfl ?_); refine goesL_ (some 8) rfl rfl Tryd.func25 (by kernel_rfl) rfl #[.int .u64 15360, .int .i64 2] rfl (by (try simp only [List.map_toArray, List.map_cons, List.map_nil]); first | done | rfl | (simp only [List.length_drop, List.length_take]; rfl)) ?_; (with_reducible refine (flt_Widen.calls 15360 2 t799 t800 _ A1.out).mono ?_); rintro e w40 ⟨rfl, hb⟩; refine ⟨_, rfl, ?_⟩; have n0_ := Aside0.mk (below_step (by repeat (first | (with_reducible first | exact HB.out | apply below_alloc | apply pw_below_drewN | apply below_drew1) | exact HB.out)) hb); clear HB; have HB := n0_; clear n0_; (try clear hb); (try clear hb2); (try clear hk); (try clear hi)) | ((with_reducible refine gate_callee (f := 28) rfl ?_); refine goesL_ (some 13) rfl rfl Tryd.func28 (by kernel_rfl) rfl #[.int .u64 t799] rfl (by (try simp only [List.map_toArray, List.map_cons, List.map_nil]); first | done | rfl | (simp only [List.length_drop, List.length_take]; rfl)) ?_; (with_reducible refine (flt_Narrow.calls t799 t801 t802 _ A2.out).mono ?_); rintro e w41 ⟨rfl, hb⟩; refine ⟨_, rfl, ?_⟩; have n0_ := Aside0.mk (below_step (by repeat (first | (with_reducible first | exact HB.out | apply below_alloc | apply pw_below_drewN | apply below_drew1) | exact HB.out)) hb); clear HB; have HB := n0_; clear n0_; (try clear hb); (try clear hb2); (try clear hk); (try clear hi)) | ((with_reducible refine gate_callee (f := 30) rfl ?_); refine goesL_ (some 17) rfl rfl Tryd.func30 (by kernel_rfl) rfl #[.int .u64 4591870180066957722] rfl (by (try simp only [List.map_toArray, List.map_cons, List.map_nil]); first | done | rfl | (simp only [List.length_drop, List.length_take]; rfl)) ?_; (with_reducible refine (flt_Exact.calls k 4591870180066957722 t803 t804 t805 t806 _ A3.out (tb_below (by repeat (first | (with_reducible first | exact HB.out | apply below_alloc | apply pw_below_drewN | apply below_drew1) | exact HB.out)) HT.out)).mono ?_); rintro e w42 ⟨rfl, hb⟩; refine ⟨_, rfl, ?_⟩; have n0_ := Aside0.mk (below_step (by repeat (first | (with_reducible first | exact HB.out | apply below_alloc | apply pw_below_drewN | apply below_drew1) | exact HB.out)) hb); clear HB; have HB := n0_; clear n0_; (try clear hb); (try clear hb2); (try clear hk); (try clear hi)) | ((with_reducible refine gate_dst (N := 5) rfl ?_); (try (refine gate_guard (by rfl) ?_; dsimp only)); refine box_event ?hg (N := 5) ?hd (cs := #[.bool false, .string (⟨#[]⟩ : ByteArray), .int .i64 0]) (t := 46) ?hr ?_; (case hd => rfl); (case hg => rfl); (case hr => first | (go_simp; done) | (go_simp; rfl)); intro gb807 hg w43 hbox hb; have n0_ := Aside0.mk (below_step (by repeat (first | (with_reducible first | exact HB.out | apply below_alloc | apply pw_below_drewN | apply below_drew1) | exact HB.out)) hb); have n1_ := Aside0.mk (hbox); have n2_ := Aside0.mk ((by rw [hg]; exact (below_size (by repeat (first | (with_reducible first | exact HB.out | apply below_alloc | apply pw_below_drewN | apply below_drew1) | exact HB.out))) : w.heap.size ≤ gb807)); have n3_ := Aside0.mk ((by rw [hg]; exact (below_size (by repeat (first | (with_reducible first | exact HB.out | apply below_alloc | apply pw_below_drewN | apply below_drew1) | exact HB.out))) : w.heap.size ≤ gb807)); clear HB; have HB := n0_; have BK807 := n1_; have GW807 := n2_; have GE807 := n3_; clear n0_ n1_ n2_ n3_; clear hb hbox hg; have hcz44_0 : w43.cell? ⟨gb807, 0, none⟩ = some (.bool false) := (blk_cell BK807.out 0).trans rfl; have hcz44_1 : w43.cell? ⟨gb807, 1, none⟩ = some (.string (⟨#[]⟩ : ByteArray)) := (blk_cell BK807.out 1).trans rfl; have hcz44_2 : w43.cell? ⟨gb807, 2, none⟩ = some (.int .i64 0) := (blk_cell BK807.out 2).trans rfl; have hfz44_0 := blk_frozen BK807.out 0; have hfz44_1 := blk_frozen BK807.out 1; have hfz44_2 := blk_frozen BK807.out 2))
    go_ret
    exact ⟨by first | rfl | (simp [errW_none, errW_some] <;> rfl) | (simp [*, errW_none, errW_some] <;> rfl), by repeat (first | (with_reducible first | exact HB.out | apply below_alloc | apply pw_below_drewN | apply below_drew1 | refine below_set ?_ GE807.out) | exact HB.out)⟩
end Go.Proofs.YtfndkpifgmcomaaDoor.XD
end
section
namespace Go.Proofs.YtfndkpifgmcomaaDoor.XD
open Go.RowKit Go.Proofs.YtfndkpifgmcomaaDoorW.PrintWords Go.Proofs.YtfndkpifgmcomaaDoorW.PrintLast Go.Proofs.YtfndkpifgmcomaaDoorW.PrintMore
attribute [local go_sem] max2_int min2_int max_two min_two max_three min_three max_four min_four
set_option linter.unusedVariables false
set_option linter.unusedSimpArgs false
attribute [local go_sem high] eqA46
mutual
def gantlinelaw07_FltSigns.j0 : Nat → Int → Bool → Bool → ByteArray → Int → Bool → ByteArray → Int → Option (Bool)
  | 0, _, _, _, _, _, _, _, _ => none
  | k + 1, x4, x28, x863000, x863001, x863002, x868000, x868001, x868002 => if x28 = true then (some false) else (if x4 = 0 then (gantlinelaw07_FltSigns.j1 k (x863001.toList == ([48] : List UInt8)) x863000 x863001 x863002 x868000 x868001 x868002) else (gantlinelaw07_FltSigns.j1 k true x863000 x863001 x863002 x868000 x868001 x868002))
def gantlinelaw07_FltSigns.j1 : Nat → Bool → Bool → ByteArray → Int → Bool → ByteArray → Int → Option (Bool)
  | 0, _, _, _, _, _, _, _ => none
  | k + 1, x35, x863000, x863001, x863002, x868000, x868001, x868002 => if x35 = true then (if (x863000 == x868000 && (x863001.toList == x868001.toList && (x863002 == x868002))) = true then ((gantlinelaw07_alive.f k).bind fun t870 => (some t870)) else (some false)) else (if ((!x863000) == x868000 && (x863001.toList == x868001.toList && (x863002 == x868002))) = true then ((gantlinelaw07_alive.f k).bind fun t871 => (some t871)) else (some false))
end
def gantlinelaw07_FltSigns.f (k : Nat) (a0 : Int) : Option (Bool) := (flt_Exact.f k a0).bind fun bt858 => ((flt_Exact.f k (Go.bits .xor .u64 a0 9223372036854775808)).bind fun bt863 => (if bt858.2.2.2 = bt863.2.2.2 then ((flt_Negative.f a0).bind fun t868 => ((flt_Negative.f (Go.bits .xor .u64 a0 9223372036854775808)).bind fun t869 => (gantlinelaw07_FltSigns.j0 k bt858.2.2.2 (t868 == t869) bt858.1 bt858.2.1 bt858.2.2.1 bt863.1 bt863.2.1 bt863.2.2.1))) else (gantlinelaw07_FltSigns.j0 k bt858.2.2.2 true bt858.1 bt858.2.1 bt858.2.2.1 bt863.1 bt863.2.1 bt863.2.2.1)))
set_option maxHeartbeats 8000000 in
set_option maxRecDepth 100000 in
theorem gantlinelaw07_FltSigns.calls (k : Nat) (a0 : Int) (r : Bool) (w : World) (h : gantlinelaw07_FltSigns.f k a0 = some r) (hT_ : Tb w) :
    Calls Tryd.prog 9 #[.int .u64 a0] w fun e w' => e = .returned (.bool r) ∧ Below w.heap.size w w' := by
  have HT := Aside0.mk hT_
  clear hT_
  have hu46 := Tryd.underlying46
  have HB := Aside0.mk (Below.refl w.heap.size w)
  have H : ((flt_Exact.f k a0).bind fun bt858 => ((flt_Exact.f k (Go.bits .xor .u64 a0 9223372036854775808)).bind fun bt863 => (if bt858.2.2.2 = bt863.2.2.2 then ((flt_Negative.f a0).bind fun t868 => ((flt_Negative.f (Go.bits .xor .u64 a0 9223372036854775808)).bind fun t869 => (gantlinelaw07_FltSigns.j0 k bt858.2.2.2 (t868 == t869) bt858.1 bt858.2.1 bt858.2.2.1 bt863.1 bt863.2.1 bt863.2.2.1))) else (gantlinelaw07_FltSigns.j0 k bt858.2.2.2 true bt858.1 bt858.2.1 bt858.2.2.1 bt863.1 bt863.2.1 bt863.2.2.1)))) = some r := h
  clear h
  replace H := Option.bind_eq_some_iff.mp H
  obtain ⟨⟨t858, t859, t860, t861⟩, A20, H⟩ := H
  replace H : ((flt_Exact.f k (Go.bits .xor .u64 a0 9223372036854775808)).bind fun bt863 => (if t861 = bt863.2.2.2 then ((flt_Negative.f a0).bind fun t868 => ((flt_Negative.f (Go.bits .xor .u64 a0 9223372036854775808)).bind fun t869 => (gantlinelaw07_FltSigns.j0 k t861 (t868 == t869) t858 t859 t860 bt863.1 bt863.2.1 bt863.2.2.1))) else (gantlinelaw07_FltSigns.j0 k t861 true t858 t859 t860 bt863.1 bt863.2.1 bt863.2.2.1))) = some r := H
  have A2 := Aside0.mk A20
  clear A20
  replace H := Option.bind_eq_some_iff.mp H
  obtain ⟨⟨t863, t864, t865, t866⟩, A30, H⟩ := H
  replace H : (if t861 = t866 then ((flt_Negative.f a0).bind fun t868 => ((flt_Negative.f (Go.bits .xor .u64 a0 9223372036854775808)).bind fun t869 => (gantlinelaw07_FltSigns.j0 k t861 (t868 == t869) t858 t859 t860 t863 t864 t865))) else (gantlinelaw07_FltSigns.j0 k t861 true t858 t859 t860 t863 t864 t865)) = some r := H
  have A3 := Aside0.mk A30
  clear A30
  have HC4 := Aside0.mk H
  clear H
  go_enter Tryd.func9, Tryd.ntmps9
  go_upto_region 3 with (first | ((with_reducible refine gate_callee (f := 30) rfl ?_); refine goesL_ (some 9) rfl rfl Tryd.func30 (by kernel_rfl) rfl #[.int .u64 a0] rfl (by (try simp only [List.map_toArray, List.map_cons, List.map_nil]); first | done | rfl | (simp only [List.length_drop, List.length_take]; rfl)) ?_; (with_reducible refine (flt_Exact.calls k a0 t858 t859 t860 t861 _ A2.out (tb_below (by repeat (first | (with_reducible first | exact HB.out | apply below_alloc | apply pw_below_drewN | apply below_drew1) | exact HB.out)) HT.out)).mono ?_); rintro e w5 ⟨rfl, hb⟩; refine ⟨_, rfl, ?_⟩; have n0_ := Aside0.mk (below_step (by repeat (first | (with_reducible first | exact HB.out | apply below_alloc | apply pw_below_drewN | apply below_drew1) | exact HB.out)) hb); clear HB; have HB := n0_; clear n0_; (try clear hb); (try clear hb2); (try clear hk); (try clear hi)) | ((with_reducible refine gate_dst (N := 3) rfl ?_); refine box_event ?hg (N := 3) ?hd (cs := #[.bool false, .string (⟨#[]⟩ : ByteArray), .int .i64 0]) (t := 46) ?hr ?_; (case hd => rfl); (case hg => rfl); (case hr => first | (go_simp; done) | (go_simp; rfl)); intro gb862 hg w6 hbox hb; have n0_ := Aside0.mk (below_step (by repeat (first | (with_reducible first | exact HB.out | apply below_alloc | apply pw_below_drewN | apply below_drew1) | exact HB.out)) hb); have n1_ := Aside0.mk (hbox); have n2_ := Aside0.mk ((by rw [hg]; exact (below_size (by repeat (first | (with_reducible first | exact HB.out | apply below_alloc | apply pw_below_drewN | apply below_drew1) | exact HB.out))) : w.heap.size ≤ gb862)); have n3_ := Aside0.mk ((by rw [hg]; exact (below_size (by repeat (first | (with_reducible first | exact HB.out | apply below_alloc | apply pw_below_drewN | apply below_drew1) | exact HB.out))) : w.heap.size ≤ gb862)); clear HB; have HB := n0_; have BK862 := n1_; have GW862 := n2_; have GE862 := n3_; clear n0_ n1_ n2_ n3_; clear hb hbox hg; have hcz7_0 : w6.cell? ⟨gb862, 0, none⟩ = some (.bool false) := (blk_cell BK862.out 0).trans rfl; have hcz7_1 : w6.cell? ⟨gb862, 1, none⟩ = some (.string (⟨#[]⟩ : ByteArray)) := (blk_cell BK862.out 1).trans rfl; have hcz7_2 : w6.cell? ⟨gb862, 2, none⟩ = some (.int .i64 0) := (blk_cell BK862.out 2).trans rfl; have hfz7_0 := blk_frozen BK862.out 0; have hfz7_1 := blk_frozen BK862.out 1; have hfz7_2 := blk_frozen BK862.out 2) | ((with_reducible refine gate_callee (f := 30) rfl ?_); refine goesL_ (some 15) rfl rfl Tryd.func30 (by kernel_rfl) rfl #[.int .u64 (Go.bits .xor .u64 a0 9223372036854775808)] rfl (by (try simp only [List.map_toArray, List.map_cons, List.map_nil]); first | done | rfl | (simp only [List.length_drop, List.length_take]; rfl)) ?_; (with_reducible refine (flt_Exact.calls k (Go.bits .xor .u64 a0 9223372036854775808) t863 t864 t865 t866 _ A3.out (tb_below (by repeat (first | (with_reducible first | exact HB.out | apply below_alloc | apply pw_below_drewN | apply below_drew1 | refine below_set ?_ GE862.out) | exact HB.out)) HT.out)).mono ?_); rintro e w8 ⟨rfl, hb⟩; refine ⟨_, rfl, ?_⟩; have n0_ := Aside0.mk (blk_below (g := gb862) (o := .cells #[.bool t858, .string t859, .int .i64 t860] 46 (0, 0)) (by (with_reducible repeat (first | refine blk_drewN ?_ _ | refine blk_drew ?_ | refine blk_alloc ?_ _)); refine blk_put (cs := #[.bool t858, .string t859, .int .i64 0]) ?_ 2 _ rfl; (with_reducible repeat (first | refine blk_drewN ?_ _ | refine blk_drew ?_ | refine blk_alloc ?_ _)); refine blk_put (cs := #[.bool t858, .string (⟨#[]⟩ : ByteArray), .int .i64 0]) ?_ 1 _ rfl; (with_reducible repeat (first | refine blk_drewN ?_ _ | refine blk_drew ?_ | refine blk_alloc ?_ _)); refine blk_put (cs := #[.bool false, .string (⟨#[]⟩ : ByteArray), .int .i64 0]) ?_ 0 _ rfl; (with_reducible repeat (first | refine blk_drewN ?_ _ | refine blk_drew ?_ | refine blk_alloc ?_ _)); exact BK862.out) hb); have n1_ := Aside0.mk (below_step (by repeat (first | (with_reducible first | exact HB.out | apply below_alloc | apply pw_below_drewN | apply below_drew1 | refine below_set ?_ GE862.out) | exact HB.out)) hb); clear BK862; clear HB; have BK862 := n0_; have HB := n1_; clear n0_ n1_; (try clear hb); (try clear hb2); (try clear hk); (try clear hi)) | ((with_reducible refine gate_dst (N := 5) rfl ?_); refine box_event ?hg (N := 5) ?hd (cs := #[.bool false, .string (⟨#[]⟩ : ByteArray), .int .i64 0]) (t := 46) ?hr ?_; (case hd => rfl); (case hg => rfl); (case hr => first | (go_simp; done) | (go_simp; rfl)); intro gb867 hg w9 hbox hb; have n0_ := Aside0.mk (blk_below (g := gb862) (o := .cells #[.bool t858, .string t859, .int .i64 t860] 46 (0, 0)) (by (with_reducible repeat (first | refine blk_drewN ?_ _ | refine blk_drew ?_ | refine blk_alloc ?_ _)); exact BK862.out) hb); have n1_ := Aside0.mk (below_step (by repeat (first | (with_reducible first | exact HB.out | apply below_alloc | apply pw_below_drewN | apply below_drew1 | refine below_set ?_ GE862.out) | exact HB.out)) hb); have n2_ := Aside0.mk (hbox); have n3_ := Aside0.mk ((by rw [hg]; exact (below_size (by repeat (first | (with_reducible first | exact HB.out | apply below_alloc | apply pw_below_drewN | apply below_drew1 | refine below_set ?_ GE862.out) | exact HB.out))) : w.heap.size ≤ gb867)); have n4_ := Aside0.mk ((by rw [hg]; exact (below_size (by repeat (first | (with_reducible first | exact HB.out | apply below_alloc | apply pw_below_drewN | apply below_drew1 | refine below_set ?_ GE862.out) | exact HB.out))) : w.heap.size ≤ gb867)); have n5_ := Aside0.mk ((by rw [hg]; exact Nat.ne_of_lt (blk_lt (g := gb862) (o := .cells #[.bool t858, .string t859, .int .i64 t860] 46 (0, 0)) (by (with_reducible repeat (first | refine blk_drewN ?_ _ | refine blk_drew ?_ | refine blk_alloc ?_ _)); exact BK862.out)) : gb862 ≠ gb867)); have n6_ := Aside0.mk ((by rw [hg]; exact Nat.ne_of_gt (blk_lt (g := gb862) (o := .cells #[.bool t858, .string t859, .int .i64 t860] 46 (0, 0)) (by (with_reducible repeat (first | refine blk_drewN ?_ _ | refine blk_drew ?_ | refine blk_alloc ?_ _)); exact BK862.out)) : gb867 ≠ gb862)); clear BK862; clear HB; have BK862 := n0_; have HB := n1_; have BK867 := n2_; have GW867 := n3_; have GE867 := n4_; have NB862_867 := n5_; have NB867_862 := n6_; clear n0_ n1_ n2_ n3_ n4_ n5_ n6_; clear hb hbox hg; have hnb10 := NB867_862.out; have hnc10 := NB862_867.out; have hcz11_0 : w9.cell? ⟨gb867, 0, none⟩ = some (.bool false) := (blk_cell BK867.out 0).trans rfl; have hcz11_1 : w9.cell? ⟨gb867, 1, none⟩ = some (.string (⟨#[]⟩ : ByteArray)) := (blk_cell BK867.out 1).trans rfl; have hcz11_2 : w9.cell? ⟨gb867, 2, none⟩ = some (.int .i64 0) := (blk_cell BK867.out 2).trans rfl; have hfz11_0 := blk_frozen BK867.out 0; have hfz11_1 := blk_frozen BK867.out 1; have hfz11_2 := blk_frozen BK867.out 2))
  (try simp only [Act.put, List.setIfInBounds_toArray, List.set_cons_zero, List.set_cons_succ])
  go_cut [28] (fun v28 wc => ∃ (kq : Nat) (x28_3 : Bool), v28 = .bool x28_3 ∧ Aside0 (gantlinelaw07_FltSigns.j0 kq t861 x28_3 t858 t859 t860 t863 t864 t865 = some r) ∧ Aside0 (kq ≤ k) ∧ Aside0 (wc.heap[gb862]? = some (.cells #[.bool t858, .string t859, .int .i64 t860] 46 (0, 0))) ∧ Aside0 (wc.heap[gb867]? = some (.cells #[.bool t863, .string t864, .int .i64 t865] 46 (0, 0))) ∧ Aside0 (Below w.heap.size w wc))
  case first =>
    have H := HC4.out
    clear HC4
    by_cases c12 : t861 = t866
    · rw [if_pos c12] at H
      have c12b0 : (t861 == t866) = true := beq_iff_eq.mpr c12
      have c12b1 : (t861 != t866) = false := bne_eq_false_iff_eq.mpr c12
      clear c12
      (first | rw [c12b0] | rw [c12b1] | (simp only [i64_w, i32_w]; rw [c12b0]) | skip)
      replace H := Option.bind_eq_some_iff.mp H
      obtain ⟨t868, A130, H⟩ := H
      replace H : ((flt_Negative.f (Go.bits .xor .u64 a0 9223372036854775808)).bind fun t869 => (gantlinelaw07_FltSigns.j0 k t861 (t868 == t869) t858 t859 t860 t863 t864 t865)) = some r := H
      have A13 := Aside0.mk A130
      clear A130
      replace H := Option.bind_eq_some_iff.mp H
      obtain ⟨t869, A140, H⟩ := H
      replace H : (gantlinelaw07_FltSigns.j0 k t861 (t868 == t869) t858 t859 t860 t863 t864 t865) = some r := H
      have A14 := Aside0.mk A140
      clear A140
      have H' := Aside0.mk H
      clear H
      go_wp2_with (first | (go_at_call 35; (with_reducible refine (flt_Negative.calls a0 t868 _ A13.out).mono ?_); rintro e w' ⟨rfl, ⟨nd, rfl⟩⟩) | (go_at_call 35; (with_reducible refine (flt_Negative.calls (Go.bits .xor .u64 a0 9223372036854775808) t869 _ A14.out).mono ?_); rintro e w' ⟨rfl, ⟨nd, rfl⟩⟩))
      go_meet
      case rel => exact ⟨_, ((t868 == t869)), (by first | rfl | (simp; done) | (simp [*]; done)), H', ⟨by first | omega | exact Nat.le_refl _⟩, ⟨by (with_reducible repeat (first | refine blk_drewN ?_ _ | refine blk_drew ?_ | refine blk_alloc ?_ _)); refine blk_far ?_ NB862_867.out _; (with_reducible repeat (first | refine blk_drewN ?_ _ | refine blk_drew ?_ | refine blk_alloc ?_ _)); refine blk_far ?_ NB862_867.out _; (with_reducible repeat (first | refine blk_drewN ?_ _ | refine blk_drew ?_ | refine blk_alloc ?_ _)); refine blk_far ?_ NB862_867.out _; (with_reducible repeat (first | refine blk_drewN ?_ _ | refine blk_drew ?_ | refine blk_alloc ?_ _)); exact BK862.out⟩, ⟨by (with_reducible repeat (first | refine blk_drewN ?_ _ | refine blk_drew ?_ | refine blk_alloc ?_ _)); refine blk_put (cs := #[.bool t863, .string t864, .int .i64 0]) ?_ 2 _ rfl; (with_reducible repeat (first | refine blk_drewN ?_ _ | refine blk_drew ?_ | refine blk_alloc ?_ _)); refine blk_put (cs := #[.bool t863, .string (⟨#[]⟩ : ByteArray), .int .i64 0]) ?_ 1 _ rfl; (with_reducible repeat (first | refine blk_drewN ?_ _ | refine blk_drew ?_ | refine blk_alloc ?_ _)); refine blk_put (cs := #[.bool false, .string (⟨#[]⟩ : ByteArray), .int .i64 0]) ?_ 0 _ rfl; (with_reducible repeat (first | refine blk_drewN ?_ _ | refine blk_drew ?_ | refine blk_alloc ?_ _)); exact BK867.out⟩, ⟨by repeat (first | (with_reducible first | exact HB.out | apply below_alloc | apply pw_below_drewN | apply below_drew1 | refine below_set ?_ GE862.out | refine below_set ?_ GE867.out) | exact HB.out)⟩⟩
    · rw [if_neg c12] at H
      have c12b0 : (t861 == t866) = false := beq_eq_false_iff_ne.mpr c12
      have c12b1 : (t861 != t866) = true := bne_iff_ne.mpr c12
      (first | rw [c12b0] | rw [c12b1] | (simp only [i64_w, i32_w]; rw [c12b0]) | skip)
      have H' := Aside0.mk H
      clear H
      go_wp2
      go_meet
      case rel => exact ⟨_, (true), (by first | rfl | (simp; done) | (simp [*]; done)), H', ⟨by first | omega | exact Nat.le_refl _⟩, ⟨by (with_reducible repeat (first | refine blk_drewN ?_ _ | refine blk_drew ?_ | refine blk_alloc ?_ _)); refine blk_far ?_ NB862_867.out _; (with_reducible repeat (first | refine blk_drewN ?_ _ | refine blk_drew ?_ | refine blk_alloc ?_ _)); refine blk_far ?_ NB862_867.out _; (with_reducible repeat (first | refine blk_drewN ?_ _ | refine blk_drew ?_ | refine blk_alloc ?_ _)); refine blk_far ?_ NB862_867.out _; (with_reducible repeat (first | refine blk_drewN ?_ _ | refine blk_drew ?_ | refine blk_alloc ?_ _)); exact BK862.out⟩, ⟨by (with_reducible repeat (first | refine blk_drewN ?_ _ | refine blk_drew ?_ | refine blk_alloc ?_ _)); refine blk_put (cs := #[.bool t863, .string t864, .int .i64 0]) ?_ 2 _ rfl; (with_reducible repeat (first | refine blk_drewN ?_ _ | refine blk_drew ?_ | refine blk_alloc ?_ _)); refine blk_put (cs := #[.bool t863, .string (⟨#[]⟩ : ByteArray), .int .i64 0]) ?_ 1 _ rfl; (with_reducible repeat (first | refine blk_drewN ?_ _ | refine blk_drew ?_ | refine blk_alloc ?_ _)); refine blk_put (cs := #[.bool false, .string (⟨#[]⟩ : ByteArray), .int .i64 0]) ?_ 0 _ rfl; (with_reducible repeat (first | refine blk_drewN ?_ _ | refine blk_drew ?_ | refine blk_alloc ?_ _)); exact BK867.out⟩, ⟨by repeat (first | (with_reducible first | exact HB.out | apply below_alloc | apply pw_below_drewN | apply below_drew1 | refine below_set ?_ GE862.out | refine below_set ?_ GE867.out) | exact HB.out)⟩⟩
  case rest =>
    clear HC4
    try clear c1
    try clear p2
    try clear c3
    try clear c9
    try clear c10
    try clear c12
    try clear c12b0
    try clear c12b1
    try clear hcz11_0
    try clear hcz11_1
    try clear hcz11_2
    try clear hcz7_0
    try clear hcz7_1
    try clear hcz7_2
    try clear hfz11_0
    try clear hfz11_1
    try clear hfz11_2
    try clear hfz7_0
    try clear hfz7_1
    try clear hfz7_2
    obtain ⟨kq, x28_3, rfl, HA, HJ3, BK862, BK867, HB⟩ := hcut
    cases kq with
    | zero => exact absurd HA.out (by simp [gantlinelaw07_FltSigns.j0])
    | succ kj3 =>
      have H := HA.out
      clear HA
      simp only [gantlinelaw07_FltSigns.j0] at H
      by_cases c15 : x28_3 = true
      · subst c15
        have H1 : (some false) = some r := by rw [if_pos rfl] at H; exact H
        clear H
        have H := H1
        clear H1
        obtain rfl := Option.some.inj H
        go_wp2
        go_ret
        exact ⟨by first | rfl | (simp [errW_none, errW_some] <;> rfl) | (simp [*, errW_none, errW_some] <;> rfl), by repeat (first | (with_reducible first | exact HB.out | apply below_alloc | apply pw_below_drewN | apply below_drew1 | refine below_set ?_ GE862.out | refine below_set ?_ GE867.out) | exact HB.out)⟩
      · replace c15 := Bool.eq_false_iff.mpr c15
        subst c15
        have H1 : (if t861 = 0 then (gantlinelaw07_FltSigns.j1 kj3 (t859.toList == ([48] : List UInt8)) t858 t859 t860 t863 t864 t865) else (gantlinelaw07_FltSigns.j1 kj3 true t858 t859 t860 t863 t864 t865)) = some r := by rw [if_neg (show ¬ (false = true) by decide)] at H; exact H
        clear H
        have H := H1
        clear H1
        have HC16 := Aside0.mk H
        clear H
        go_upto_region 5 with (fail)
        go_cut [35] (fun v35 wc => ∃ (kq : Nat) (x35_15 : Bool), v35 = .bool x35_15 ∧ Aside0 (gantlinelaw07_FltSigns.j1 kq x35_15 t858 t859 t860 t863 t864 t865 = some r) ∧ Aside0 (kq ≤ kj3) ∧ Aside0 (wc.heap[gb862]? = some (.cells #[.bool t858, .string t859, .int .i64 t860] 46 (0, 0))) ∧ Aside0 (wc.heap[gb867]? = some (.cells #[.bool t863, .string t864, .int .i64 t865] 46 (0, 0))) ∧ Aside0 (Below w.heap.size w wc))
        case first =>
          have H := HC16.out
          clear HC16
          by_cases c17 : t861 = 0
          · rw [if_pos c17] at H
            have c17b0 : (t861 == 0) = true := beq_iff_eq.mpr c17
            have c17b1 : (t861 != 0) = false := bne_eq_false_iff_eq.mpr c17
            clear c17
            (first | rw [c17b0] | rw [c17b1] | (simp only [i64_w, i32_w]; rw [c17b0]) | skip)
            have H' := Aside0.mk H
            clear H
            have hnb18 := NB862_867.out
            have hnc18 := NB867_862.out
            have hcz19_0 : wc.cell? ⟨gb862, 0, none⟩ = some (.bool t858) := (blk_cell BK862.out 0).trans rfl
            have hcz19_1 : wc.cell? ⟨gb862, 1, none⟩ = some (.string t859) := (blk_cell BK862.out 1).trans rfl
            have hcz19_2 : wc.cell? ⟨gb862, 2, none⟩ = some (.int .i64 t860) := (blk_cell BK862.out 2).trans rfl
            have hfz19_0 := blk_frozen BK862.out 0
            have hfz19_1 := blk_frozen BK862.out 1
            have hfz19_2 := blk_frozen BK862.out 2
            go_wp2
            go_meet
            case rel => exact ⟨_, ((t859.toList == ([48] : List UInt8))), (by first | rfl | (simp; done) | (simp [*]; done)), H', ⟨by have := HJ3.out; first | omega | exact Nat.le_refl _⟩, ⟨by (with_reducible repeat (first | refine blk_drewN ?_ _ | refine blk_drew ?_ | refine blk_alloc ?_ _)); exact BK862.out⟩, ⟨by (with_reducible repeat (first | refine blk_drewN ?_ _ | refine blk_drew ?_ | refine blk_alloc ?_ _)); exact BK867.out⟩, ⟨by repeat (first | (with_reducible first | exact HB.out | apply below_alloc | apply pw_below_drewN | apply below_drew1 | refine below_set ?_ GE862.out | refine below_set ?_ GE867.out) | exact HB.out)⟩⟩
          · rw [if_neg c17] at H
            have c17b0 : (t861 == 0) = false := beq_eq_false_iff_ne.mpr c17
            have c17b1 : (t861 != 0) = true := bne_iff_ne.mpr c17
            (first | rw [c17b0] | rw [c17b1] | (simp only [i64_w, i32_w]; rw [c17b0]) | skip)
            have H' := Aside0.mk H
            clear H
            go_wp2
            go_meet
            case rel => exact ⟨_, (true), (by first | rfl | (simp; done) | (simp [*]; done)), H', ⟨by have := HJ3.out; first | omega | exact Nat.le_refl _⟩, ⟨by (with_reducible repeat (first | refine blk_drewN ?_ _ | refine blk_drew ?_ | refine blk_alloc ?_ _)); exact BK862.out⟩, ⟨by (with_reducible repeat (first | refine blk_drewN ?_ _ | refine blk_drew ?_ | refine blk_alloc ?_ _)); exact BK867.out⟩, ⟨by repeat (first | (with_reducible first | exact HB.out | apply below_alloc | apply pw_below_drewN | apply below_drew1 | refine below_set ?_ GE862.out | refine below_set ?_ GE867.out) | exact HB.out)⟩⟩
        case rest =>
          clear HC16
          try clear c1
          try clear p2
          try clear c3
          try clear c9
          try clear c10
          try clear c12
          try clear c12b0
          try clear c12b1
          try clear c15
          try clear c17
          try clear c17b0
          try clear c17b1
          try clear c18
          try clear hcz11_0
          try clear hcz11_1
          try clear hcz11_2
          try clear hcz19_0
          try clear hcz19_1
          try clear hcz19_2
          try clear hcz7_0
          try clear hcz7_1
          try clear hcz7_2
          try clear hfz11_0
          try clear hfz11_1
          try clear hfz11_2
          try clear hfz19_0
          try clear hfz19_1
          try clear hfz19_2
          try clear hfz7_0
          try clear hfz7_1
          try clear hfz7_2
          try clear p2
          obtain ⟨kq, x35_15, rfl, HA, HJ15, BK862, BK867, HB⟩ := hcut
          cases kq with
          | zero => exact absurd HA.out (by simp [gantlinelaw07_FltSigns.j1])
          | succ kj15 =>
            have H := HA.out
            clear HA
            simp only [gantlinelaw07_FltSigns.j1] at H
            by_cases c20 : x35_15 = true
            · subst c20
              have H1 : (if (t858 == t863 && (t859.toList == t864.toList && (t860 == t865))) = true then ((gantlinelaw07_alive.f kj15).bind fun t870 => (some t870)) else (some false)) = some r := by rw [if_pos rfl] at H; exact H
              clear H
              have H := H1
              clear H1
              by_cases c21 : (t858 == t863 && (t859.toList == t864.toList && (t860 == t865))) = true
              · rw [if_pos c21] at H
                have c21b0 : (t858 == t863 && (t859.toList == t864.toList && (t860 == t865))) = true := c21
                (try (have c21b1 : decide (t858 = t863 && (t859.toList == t864.toList && (t860 == t865))) = true := by simpa using c21))
                (try (have c21b2 : (t858 == t863 && (t859.toList == t864.toList && (t860 == t865))) = true := by simpa using c21))
                clear c21
                replace H := Option.bind_eq_some_iff.mp H
                obtain ⟨t870, A220, H⟩ := H
                replace H : (some t870) = some r := H
                have A22 := Aside0.mk A220
                clear A220
                obtain rfl := Option.some.inj H
                have hnb23 := NB862_867.out
                have hnc23 := NB867_862.out
                have hcz24_0 : wc.cell? ⟨gb862, 0, none⟩ = some (.bool t858) := (blk_cell BK862.out 0).trans rfl
                have hcz24_1 : wc.cell? ⟨gb862, 1, none⟩ = some (.string t859) := (blk_cell BK862.out 1).trans rfl
                have hcz24_2 : wc.cell? ⟨gb862, 2, none⟩ = some (.int .i64 t860) := (blk_cell BK862.out 2).trans rfl
                have hfz24_0 := blk_frozen BK862.out 0
                have hfz24_1 := blk_frozen BK862.out 1
                have hfz24_2 := blk_frozen BK862.out 2
                have hcz25_0 : wc.cell? ⟨gb867, 0, none⟩ = some (.bool t863) := (blk_cell BK867.out 0).trans rfl
                have hcz25_1 : wc.cell? ⟨gb867, 1, none⟩ = some (.string t864) := (blk_cell BK867.out 1).trans rfl
                have hcz25_2 : wc.cell? ⟨gb867, 2, none⟩ = some (.int .i64 t865) := (blk_cell BK867.out 2).trans rfl
                have hfz25_0 := blk_frozen BK867.out 0
                have hfz25_1 := blk_frozen BK867.out 1
                have hfz25_2 := blk_frozen BK867.out 2
                go_wp2_with (first | (go_at_call 27; (with_reducible refine (gantlinelaw07_alive.calls kj15  t870 _ A22.out (tb_below (by repeat (first | (with_reducible first | exact HB.out | apply below_alloc | apply pw_below_drewN | apply below_drew1 | refine below_set ?_ GE862.out | refine below_set ?_ GE867.out) | exact HB.out)) HT.out)).mono ?_); rintro e w26 ⟨rfl, hb⟩; have n0_ := Aside0.mk (blk_below (g := gb862) (o := .cells #[.bool t858, .string t859, .int .i64 t860] 46 (0, 0)) (by (with_reducible repeat (first | refine blk_drewN ?_ _ | refine blk_drew ?_ | refine blk_alloc ?_ _)); exact BK862.out) hb); have n1_ := Aside0.mk (blk_below (g := gb867) (o := .cells #[.bool t863, .string t864, .int .i64 t865] 46 (0, 0)) (by (with_reducible repeat (first | refine blk_drewN ?_ _ | refine blk_drew ?_ | refine blk_alloc ?_ _)); exact BK867.out) hb); have n2_ := Aside0.mk (below_step (by repeat (first | (with_reducible first | exact HB.out | apply below_alloc | apply pw_below_drewN | apply below_drew1 | refine below_set ?_ GE862.out | refine below_set ?_ GE867.out) | exact HB.out)) hb); clear BK862; clear BK867; clear HB; have BK862 := n0_; have BK867 := n1_; have HB := n2_; clear n0_ n1_ n2_; (try clear hb); (try clear hb2); (try clear hk); (try clear hi)))
                go_ret
                exact ⟨by first | rfl | (simp [errW_none, errW_some] <;> rfl) | (simp [*, errW_none, errW_some] <;> rfl), by repeat (first | (with_reducible first | exact HB.out | apply below_alloc | apply pw_below_drewN | apply below_drew1 | refine below_set ?_ GE862.out | refine below_set ?_ GE867.out) | exact HB.out)⟩
              · rw [if_neg c21] at H
                have c21b0 : (t858 == t863 && (t859.toList == t864.toList && (t860 == t865))) = false := by simpa using c21
                (try (have c21b1 : decide (t858 = t863 && (t859.toList == t864.toList && (t860 == t865))) = false := by simpa using c21))
                (try (have c21b2 : (t858 == t863 && (t859.toList == t864.toList && (t860 == t865))) = false := by simpa using c21))
                (try (have c21b3 : ¬ (t858 = t863 && (t859.toList == t864.toList && (t860 == t865))) := by simpa using c21))
                clear c21
                obtain rfl := Option.some.inj H
                have hnb27 := NB862_867.out
                have hnc27 := NB867_862.out
                have hcz28_0 : wc.cell? ⟨gb862, 0, none⟩ = some (.bool t858) := (blk_cell BK862.out 0).trans rfl
                have hcz28_1 : wc.cell? ⟨gb862, 1, none⟩ = some (.string t859) := (blk_cell BK862.out 1).trans rfl
                have hcz28_2 : wc.cell? ⟨gb862, 2, none⟩ = some (.int .i64 t860) := (blk_cell BK862.out 2).trans rfl
                have hfz28_0 := blk_frozen BK862.out 0
                have hfz28_1 := blk_frozen BK862.out 1
                have hfz28_2 := blk_frozen BK862.out 2
                have hcz29_0 : wc.cell? ⟨gb867, 0, none⟩ = some (.bool t863) := (blk_cell BK867.out 0).trans rfl
                have hcz29_1 : wc.cell? ⟨gb867, 1, none⟩ = some (.string t864) := (blk_cell BK867.out 1).trans rfl
                have hcz29_2 : wc.cell? ⟨gb867, 2, none⟩ = some (.int .i64 t865) := (blk_cell BK867.out 2).trans rfl
                have hfz29_0 := blk_frozen BK867.out 0
                have hfz29_1 := blk_frozen BK867.out 1
                have hfz29_2 := blk_frozen BK867.out 2
                go_wp2
                go_ret
                exact ⟨by first | rfl | (simp [errW_none, errW_some] <;> rfl) | (simp [*, errW_none, errW_some] <;> rfl), by repeat (first | (with_reducible first | exact HB.out | apply below_alloc | apply pw_below_drewN | apply below_drew1 | refine below_set ?_ GE862.out | refine below_set ?_ GE867.out) | exact HB.out)⟩
            · replace c20 := Bool.eq_false_iff.mpr c20
              subst c20
              have H1 : (if ((!t858) == t863 && (t859.toList == t864.toList && (t860 == t865))) = true then ((gantlinelaw07_alive.f kj15).bind fun t871 => (some t871)) else (some false)) = some r := by rw [if_neg (show ¬ (false = true) by decide)] at H; exact H
              clear H
              have H := H1
              clear H1
              by_cases c30 : ((!t858) == t863 && (t859.toList == t864.toList && (t860 == t865))) = true
              · rw [if_pos c30] at H
                have c30b0 : ((!t858) == t863 && (t859.toList == t864.toList && (t860 == t865))) = true := c30
                (try (have c30b1 : decide ((!t858) = t863 && (t859.toList == t864.toList && (t860 == t865))) = true := by simpa using c30))
                (try (have c30b2 : ((!t858) == t863 && (t859.toList == t864.toList && (t860 == t865))) = true := by simpa using c30))
                clear c30
                replace H := Option.bind_eq_some_iff.mp H
                obtain ⟨t871, A310, H⟩ := H
                replace H : (some t871) = some r := H
                have A31 := Aside0.mk A310
                clear A310
                obtain rfl := Option.some.inj H
                have hnb32 := NB862_867.out
                have hnc32 := NB867_862.out
                have hcz33_0 : wc.cell? ⟨gb862, 0, none⟩ = some (.bool t858) := (blk_cell BK862.out 0).trans rfl
                have hcz33_1 : wc.cell? ⟨gb862, 1, none⟩ = some (.string t859) := (blk_cell BK862.out 1).trans rfl
                have hcz33_2 : wc.cell? ⟨gb862, 2, none⟩ = some (.int .i64 t860) := (blk_cell BK862.out 2).trans rfl
                have hfz33_0 := blk_frozen BK862.out 0
                have hfz33_1 := blk_frozen BK862.out 1
                have hfz33_2 := blk_frozen BK862.out 2
                have hcz34_0 : wc.cell? ⟨gb867, 0, none⟩ = some (.bool t863) := (blk_cell BK867.out 0).trans rfl
                have hcz34_1 : wc.cell? ⟨gb867, 1, none⟩ = some (.string t864) := (blk_cell BK867.out 1).trans rfl
                have hcz34_2 : wc.cell? ⟨gb867, 2, none⟩ = some (.int .i64 t865) := (blk_cell BK867.out 2).trans rfl
                have hfz34_0 := blk_frozen BK867.out 0
                have hfz34_1 := blk_frozen BK867.out 1
                have hfz34_2 := blk_frozen BK867.out 2
                go_wp2_with (first | (go_at_call 27; (with_reducible refine (gantlinelaw07_alive.calls kj15  t871 _ A31.out (tb_below (by repeat (first | (with_reducible first | exact HB.out | apply below_alloc | apply pw_below_drewN | apply below_drew1 | refine below_set ?_ GE862.out | refine below_set ?_ GE867.out) | exact HB.out)) HT.out)).mono ?_); rintro e w35 ⟨rfl, hb⟩; have n0_ := Aside0.mk (blk_below (g := gb862) (o := .cells #[.bool (!t858), .string t859, .int .i64 t860] 46 (0, 0)) (by (with_reducible repeat (first | refine blk_drewN ?_ _ | refine blk_drew ?_ | refine blk_alloc ?_ _)); refine blk_put (cs := #[.bool t858, .string t859, .int .i64 t860]) ?_ 0 _ rfl; (with_reducible repeat (first | refine blk_drewN ?_ _ | refine blk_drew ?_ | refine blk_alloc ?_ _)); exact BK862.out) hb); have n1_ := Aside0.mk (blk_below (g := gb867) (o := .cells #[.bool t863, .string t864, .int .i64 t865] 46 (0, 0)) (by (with_reducible repeat (first | refine blk_drewN ?_ _ | refine blk_drew ?_ | refine blk_alloc ?_ _)); refine blk_far ?_ NB867_862.out _; (with_reducible repeat (first | refine blk_drewN ?_ _ | refine blk_drew ?_ | refine blk_alloc ?_ _)); exact BK867.out) hb); have n2_ := Aside0.mk (below_step (by repeat (first | (with_reducible first | exact HB.out | apply below_alloc | apply pw_below_drewN | apply below_drew1 | refine below_set ?_ GE862.out | refine below_set ?_ GE867.out) | exact HB.out)) hb); clear BK862; clear BK867; clear HB; have BK862 := n0_; have BK867 := n1_; have HB := n2_; clear n0_ n1_ n2_; (try clear hb); (try clear hb2); (try clear hk); (try clear hi)))
                go_ret
                exact ⟨by first | rfl | (simp [errW_none, errW_some] <;> rfl) | (simp [*, errW_none, errW_some] <;> rfl), by repeat (first | (with_reducible first | exact HB.out | apply below_alloc | apply pw_below_drewN | apply below_drew1 | refine below_set ?_ GE862.out | refine below_set ?_ GE867.out) | exact HB.out)⟩
              · rw [if_neg c30] at H
                have c30b0 : ((!t858) == t863 && (t859.toList == t864.toList && (t860 == t865))) = false := by simpa using c30
                (try (have c30b1 : decide ((!t858) = t863 && (t859.toList == t864.toList && (t860 == t865))) = false := by simpa using c30))
                (try (have c30b2 : ((!t858) == t863 && (t859.toList == t864.toList && (t860 == t865))) = false := by simpa using c30))
                (try (have c30b3 : ¬ ((!t858) = t863 && (t859.toList == t864.toList && (t860 == t865))) := by simpa using c30))
                clear c30
                obtain rfl := Option.some.inj H
                have hnb36 := NB862_867.out
                have hnc36 := NB867_862.out
                have hcz37_0 : wc.cell? ⟨gb862, 0, none⟩ = some (.bool t858) := (blk_cell BK862.out 0).trans rfl
                have hcz37_1 : wc.cell? ⟨gb862, 1, none⟩ = some (.string t859) := (blk_cell BK862.out 1).trans rfl
                have hcz37_2 : wc.cell? ⟨gb862, 2, none⟩ = some (.int .i64 t860) := (blk_cell BK862.out 2).trans rfl
                have hfz37_0 := blk_frozen BK862.out 0
                have hfz37_1 := blk_frozen BK862.out 1
                have hfz37_2 := blk_frozen BK862.out 2
                have hcz38_0 : wc.cell? ⟨gb867, 0, none⟩ = some (.bool t863) := (blk_cell BK867.out 0).trans rfl
                have hcz38_1 : wc.cell? ⟨gb867, 1, none⟩ = some (.string t864) := (blk_cell BK867.out 1).trans rfl
                have hcz38_2 : wc.cell? ⟨gb867, 2, none⟩ = some (.int .i64 t865) := (blk_cell BK867.out 2).trans rfl
                have hfz38_0 := blk_frozen BK867.out 0
                have hfz38_1 := blk_frozen BK867.out 1
                have hfz38_2 := blk_frozen BK867.out 2
                go_wp2
                go_ret
                exact ⟨by first | rfl | (simp [errW_none, errW_some] <;> rfl) | (simp [*, errW_none, errW_some] <;> rfl), by repeat (first | (with_reducible first | exact HB.out | apply below_alloc | apply pw_below_drewN | apply below_drew1 | refine below_set ?_ GE862.out | refine below_set ?_ GE867.out) | exact HB.out)⟩
def gantlinelaw07_FltSigns.Pure : Prop := ∀ (a0 : Int), (Lit.int .u64 a0).wf = true → ∃ k, gantlinelaw07_FltSigns.f k a0 = some true
theorem gantlinelaw07_FltSigns.walk (P : gantlinelaw07_FltSigns.Pure) (a0 : Int) (w : World) (w0 : (Lit.int .u64 a0).wf = true) (hT_ : Tb w) :
    Calls Tryd.prog 9 #[.int .u64 a0] w fun e w' => e = .returned (.bool true) ∧ Below w.heap.size w w' := by
  obtain ⟨k, h⟩ := P a0 w0
  refine (gantlinelaw07_FltSigns.calls k a0 true w h hT_).mono ?_
  rintro e w' ⟨rfl, hd⟩
  exact ⟨rfl, hd⟩
end Go.Proofs.YtfndkpifgmcomaaDoor.XD
end
