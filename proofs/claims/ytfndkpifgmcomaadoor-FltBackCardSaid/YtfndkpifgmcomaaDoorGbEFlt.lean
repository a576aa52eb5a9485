/- Part of this claim: EFlt. -/
import Derived.BigQuiet
import Derived.Deep.QuietTactic
import Derived.Test.YtfndkpifgmcomaaDoorGbXM3
import Derived.Test.YtfndkpifgmcomaaDoorGbXM1
import Derived.Test.YtfndkpifgmcomaaDoorGbELen
import Derived.Test.YtfndkpifgmcomaaDoorGbEWide
namespace Go.Proofs.YtfndkpifgmcomaaDoor.XD
open Go Go.RowKit Go.Proofs.YtfndkpifgmcomaaDoorW.PrintWords Go.Proofs.YtfndkpifgmcomaaDoorW.PrintLast Go.Proofs.YtfndkpifgmcomaaDoorW.PrintMore
set_option linter.unusedVariables false
def fmtL : List (Int × Int × Int) := [(2, 5, 10), (4, 8, 23), (8, 11, 52)]
def widenL (n width : Int) : List (Int × Int × Int) → Option (Int × Int)
  | [] => some (0, 1)
  | f :: r => if f.1 = width then (bits_Len64.f n).bind fun t => if t ≤ wrap64 (8 * width) then (flt_format_widen.f f.1 f.2.1 f.2.2 n).bind fun x => some (x, 0) else widenL n width r else widenL n width r
def flt_Widen.f (a0 : Int) (a1 : Int) : Option (Int × Int) := widenL a0 a1 fmtL
def fV (f : Int × Int × Int) : Value := .agg #[.int .i64 f.1, .int .i64 f.2.1, .int .i64 f.2.2]
theorem idx0 (W : World) : (Instr.index 85 fmtsV (.int .i64 0)).run Tryd.prog W = .ok (.agg #[.int .i64 2, .int .i64 5, .int .i64 10]) W := by kernel_rfl
theorem idx1 (W : World) : (Instr.index 85 fmtsV (.int .i64 1)).run Tryd.prog W = .ok (.agg #[.int .i64 4, .int .i64 8, .int .i64 23]) W := by kernel_rfl
theorem idx2 (W : World) : (Instr.index 85 fmtsV (.int .i64 2)).run Tryd.prog W = .ok (.agg #[.int .i64 8, .int .i64 11, .int .i64 52]) W := by kernel_rfl
theorem idx_fmt (i : Nat) (hi : i < 3) (W : World) : (Instr.index 85 fmtsV (.int .i64 i)).run Tryd.prog W = .ok (fV (fmtL[i]'hi)) W :=
  match i, hi with
  | 0, _ => idx0 W
  | 1, _ => idx1 W
  | 2, _ => idx2 W
theorem wnext {i : Nat} (h : i ≤ 3) : wrap64 ((i : Int) + 1) = ((i + 1 : Nat) : Int) := by unfold wrap64; omega
set_option maxHeartbeats 4000000 in
set_option maxRecDepth 100000 in
theorem flt_Widen.calls (a0 : Int) (a1 : Int) (r1 : Int) (r2 : Int) (w : World) (h : flt_Widen.f a0 a1 = some (r1, r2)) :
    Calls Tryd.prog 25 #[.int .u64 a0, .int .i64 a1] w fun e w' => e = .returned (.tuple #[.int .u64 r1, .int .i64 r2]) ∧ Below w.heap.size w w' := by
  have HB := Aside0.mk (Below.refl w.heap.size w)
  have H := Aside0.mk h
  clear h
  go_enter Tryd.func25, Tryd.ntmps25
  go_wp2_with (go_at_call 60; (with_reducible refine (formats_calls _).mono ?_); rintro e w1 ⟨rfl, hb⟩; have n0_ := Aside0.mk (below_step HB.out hb); clear HB hb; have HB := n0_; clear n0_)
  go_loopg [9] 4 (fun kq v9 w' => ∃ i : Nat, v9 = .int .i64 i ∧ Aside0 (i ≤ 3 ∧ 3 < kq + i) ∧ Aside0 (widenL a0 a1 (fmtL.drop i) = some (r1, r2)) ∧ Aside0 (Below w.heap.size w w'))
  case atStart => exact ⟨0, rfl, ⟨by omega⟩, H, HB⟩
  case round =>
    clear H HB
    obtain ⟨i, rfl, HI, H, HB⟩ := hrel
    cases gk with
    | zero => have := HI.out; omega
    | succ k1 =>
      by_cases c : i < 3
      · have c0 : decide ((i : Int) < 3) = true := by simp; omega
        have ix := idx_fmt i c
        have hdrop : fmtL.drop i = (fmtL[i]'c) :: fmtL.drop (i + 1) := List.drop_eq_getElem_cons c
        rw [hdrop] at H
        clear hdrop
        generalize (fmtL[i]'c) = f at ix H
        obtain ⟨a, b, d⟩ := f
        simp only [fV] at ix
        by_cases ca : a = a1
        · subst ca
          have H1 : (bits_Len64.f a0).bind (fun t => if t ≤ wrap64 (8 * a) then (flt_format_widen.f a b d a0).bind fun x => some (x, 0) else widenL a0 a (fmtL.drop (i + 1))) = some (r1, r2) := by
            have := H.out
            rw [widenL, if_pos rfl] at this
            exact this
          obtain ⟨t, ht, H2⟩ := Option.bind_eq_some_iff.1 H1
          have A1 := Aside0.mk ht
          clear H1 ht H
          by_cases ct : t ≤ wrap64 (8 * a)
          · rw [if_pos ct] at H2
            obtain ⟨x, hx, H3⟩ := Option.bind_eq_some_iff.1 H2
            simp only [Option.some.injEq, Prod.mk.injEq] at H3
            obtain ⟨rfl, rfl⟩ := H3
            have A2 := Aside0.mk hx
            clear H2 hx
            go_wp2_with (first | (go_at_call 61; (with_reducible refine (bits_Len64.calls a0 t _ A1.out).mono ?_); rintro e w2 ⟨rfl, ⟨nd, rfl⟩⟩) | (go_at_call 62; (with_reducible refine (flt_format_widen.calls a b d a0 x _ A2.out).mono ?_); rintro e w3 ⟨rfl, hb⟩))
            go_ret2
            exact ⟨rfl, below_step (pw_below_drewN (below_alloc HB.out _) _) hb⟩
          · rw [if_neg ct] at H2
            have H := Aside0.mk H2
            have cd := decide_eq_false ct
            have hw := wnext HI.out.1
            clear H2
            go_wp2_with (go_at_call 61; (with_reducible refine (bits_Len64.calls a0 t _ A1.out).mono ?_); rintro e w2 ⟨rfl, ⟨nd, rfl⟩⟩)
            go_roundg k1
            case measure => omega
            case rel => exact ⟨i + 1, by first | rfl | (rw [hw]), ⟨by have := HI.out; omega⟩, H, ⟨pw_below_drewN (below_alloc HB.out _) _⟩⟩
        · have H2 : widenL a0 a1 (fmtL.drop (i + 1)) = some (r1, r2) := by
            have := H.out
            rw [widenL, if_neg ca] at this
            exact this
          clear H
          have H := Aside0.mk H2
          have cd : (a == a1) = false := beq_eq_false_iff_ne.mpr ca
          have hw := wnext HI.out.1
          clear H2
          go_wp2
          go_roundg k1
          case measure => omega
          case rel => exact ⟨i + 1, by first | rfl | (rw [hw]), ⟨by have := HI.out; omega⟩, H, ⟨below_alloc HB.out _⟩⟩
      · have c0 : decide ((i : Int) < 3) = false := by simp; omega
        have hi3 : i = 3 := by have := HI.out; omega
        have H2 := H.out
        rw [hi3] at H2
        have H3 : (some ((0 : Int), (1 : Int))) = some (r1, r2) := H2
        simp only [Option.some.injEq, Prod.mk.injEq] at H3
        obtain ⟨rfl, rfl⟩ := H3
        clear H2 hi3
        go_wp2
        go_ret2
        exact ⟨rfl, HB.out⟩
attribute [local go_sem high] eqA84
def narrowL (n : Int) : List (Int × Int × Int) → Option (Int × Int)
  | [] => some (n, 8)
  | f :: r => (flt_format_narrow.f 100 f.1 f.2.1 f.2.2 n).bind fun k => if f = (8, 11, 52) then narrowL n r else (flt_format_widen.f f.1 f.2.1 f.2.2 k).bind fun x => if x = n then some (k, f.1) else narrowL n r
def flt_Narrow.f (a0 : Int) : Option (Int × Int) := narrowL a0 fmtL
structure SS (w : World) (g : Nat) (a b d : Int) (w' : World) : Prop where
  blk : w'.heap[g]? = some (.cells #[.int .i64 a, .int .i64 b, .int .i64 d] 84 (0, 0))
  bel : Below w.heap.size w w'
theorem mkS {w w' : World} {g : Nat} {a b d : Int} (h : SS w g a b d w') : w'.cell? ⟨g, 0, none⟩ = some (.int .i64 a) ∧ w'.cell? ⟨g, 1, none⟩ = some (.int .i64 b) ∧ w'.cell? ⟨g, 2, none⟩ = some (.int .i64 d) ∧ SS w g a b d w' :=
  ⟨(blk_cell h.blk 0).trans rfl, (blk_cell h.blk 1).trans rfl, (blk_cell h.blk 2).trans rfl, h⟩
theorem ss_drew {w w' : World} {g : Nat} {a b d : Int} (h : SS w g a b d w') : SS w g a b d w'.drew := ⟨h.blk, below_drew h.bel⟩
theorem ss_below {w w' w3 : World} {g : Nat} {a b d : Int} (h : SS w g a b d w') (hb : Below w'.heap.size w' w3) : SS w g a b d w3 := ⟨blk_below h.blk hb, below_step h.bel hb⟩
set_option maxHeartbeats 4000000 in
set_option maxRecDepth 100000 in
theorem flt_Narrow.calls (a0 : Int) (r1 : Int) (r2 : Int) (w : World) (h : flt_Narrow.f a0 = some (r1, r2)) :
    Calls Tryd.prog 28 #[.int .u64 a0] w fun e w' => e = .returned (.tuple #[.int .u64 r1, .int .i64 r2]) ∧ Below w.heap.size w w' := by
  have HB := Aside0.mk (Below.refl w.heap.size w)
  have H := Aside0.mk h
  clear h
  go_enter Tryd.func28, Tryd.ntmps28
  go_wp2_with (go_at_call 60; (with_reducible refine (formats_calls _).mono ?_); rintro e w1 ⟨rfl, hb⟩; have n0_ := Aside0.mk (below_step HB.out hb); clear HB hb; have HB := n0_; clear n0_)
  go_loopg [8] 4 (fun kq v8 w' => ∃ i : Nat, v8 = .int .i64 i ∧ Aside0 (i ≤ 3 ∧ 3 < kq + i) ∧ Aside0 (narrowL a0 (fmtL.drop i) = some (r1, r2)) ∧ Aside0 (Below w.heap.size w w'))
  case atStart => exact ⟨0, rfl, ⟨by omega⟩, H, HB⟩
  case round =>
    clear H HB
    obtain ⟨i, rfl, HI, H, HB⟩ := hrel
    cases gk with
    | zero => have := HI.out; omega
    | succ k1 =>
      by_cases c : i < 3
      · have c0 : decide ((i : Int) < 3) = true := by simp; omega
        have ix := idx_fmt i c
        have hdrop : fmtL.drop i = (fmtL[i]'c) :: fmtL.drop (i + 1) := List.drop_eq_getElem_cons c
        rw [hdrop] at H
        clear hdrop
        generalize (fmtL[i]'c) = f at ix H
        obtain ⟨a, b, d⟩ := f
        simp only [fV] at ix
        have H0 : ((flt_format_narrow.f 100 a b d a0).bind fun k => if (a, b, d) = ((8 : Int), (11 : Int), (52 : Int)) then narrowL a0 (fmtL.drop (i + 1)) else (flt_format_widen.f a b d k).bind fun x => if x = a0 then some (k, a) else narrowL a0 (fmtL.drop (i + 1))) = some (r1, r2) := H.out
        obtain ⟨k, hk, H1⟩ := Option.bind_eq_some_iff.1 H0
        clear H0
        have A1 := Aside0.mk hk
        clear hk H
        have hw := wnext HI.out.1
        by_cases cf : (a, b, d) = ((8 : Int), (11 : Int), (52 : Int))
        · rw [if_pos cf] at H1
          have H := Aside0.mk H1
          clear H1
          simp only [Prod.mk.injEq] at cf
          obtain ⟨rfl, rfl, rfl⟩ := cf
          go_wp2_with (first | (go_at_call 64; (with_reducible refine (flt_format_narrow.calls 100 8 11 52 a0 k _ A1.out).mono ?_); rintro e w2 ⟨rfl, hb⟩; have BK2 : w2.heap[wr.heap.size]? = some (.cells #[.int .i64 8, .int .i64 11, .int .i64 52] 84 (0, 0)) := by {rw [hb.block _ (by simp)]; exact heap_new wr _}; have HB2 := Aside0.mk (below_step (below_alloc HB.out _) hb); have hz0 : w2.cell? ⟨wr.heap.size, 0, none⟩ = some (.int .i64 8) := (blk_cell BK2 0).trans rfl; have hz1 : w2.cell? ⟨wr.heap.size, 1, none⟩ = some (.int .i64 11) := (blk_cell BK2 1).trans rfl; have hz2 : w2.cell? ⟨wr.heap.size, 2, none⟩ = some (.int .i64 52) := (blk_cell BK2 2).trans rfl; have hf0 := blk_frozen BK2 0; have hf1 := blk_frozen BK2 1; have hf2 := blk_frozen BK2 2))
          have S2 : Aside0 (SS w wr.heap.size 8 11 52 w2) := ⟨⟨BK2, HB2.out⟩⟩
          clear hz0 hz1 hz2 hf0 hf1 hf2 BK2 HB2 hb
          refine start_ (n := 10) (S := fun w' => w'.cell? ⟨wr.heap.size, 0, none⟩ = some (.int .i64 8) ∧ w'.cell? ⟨wr.heap.size, 1, none⟩ = some (.int .i64 11) ∧ w'.cell? ⟨wr.heap.size, 2, none⟩ = some (.int .i64 52) ∧ SS w wr.heap.size 8 11 52 w') (ds := []) #[false, false, false, false, false, false, false, false, false, false] (by kernel_rfl) rfl rfl (mkS (ss_drew S2.out)) (fun hHeld => ?_)
          have n0_ := Aside0.mk (ss_drew S2.out)
          clear S2
          have S2 := n0_
          clear n0_
          generalize w2.drew = w4 at S2 hHeld ⊢
          refine take_ (i := 0) (N := some 14) (v := ?vv101) (a' := ?aa101) #[true, false, false, false, false, false, false, false, false, false] rfl rfl (by kernel_rfl) (fun _ _ _ h => h) (Or.inl ⟨by rfl, ?hr101⟩) hHeld ?ha101 ?hh101
          case hr101 => (rintro w' ⟨s0, s1, s2, s3⟩; go_simp; with_reducible rfl)
          case ha101 => (simp only [Act.put, List.setIfInBounds_toArray, List.set_cons_zero, List.set_cons_succ, i64_w, i32_w]; rfl)
          refine one_ (i := 1) (N := some 15) #[true, true, false, false, false, false, false, false, false, false] rfl rfl (by kernel_rfl) (by decide) (fun K hK => ?_)
          refine goes_ Tryd.func65 (by kernel_rfl) rfl #[] (by rfl) rfl rfl (by (try simp only [List.map_toArray, List.map_cons, List.map_nil]); first | done | rfl) ?_
          with_reducible refine (flt_wide.calls 8 11 52 _ rfl).mono ?_
          rintro e w5 ⟨rfl, hb⟩
          refine ⟨_, rfl, ?_⟩
          have n0_ := ss_below S2.out hb
          clear S2 hb
          have S2 := Aside0.mk n0_
          clear n0_
          refine hK.out _ _ (mkS S2.out) (fun hHeld => ?_)
          clear hK K
          refine norm_ (a' := ?aa102) ?ha102 ?hh102
          case ha102 => (show Act.put _ (some 15) _ = _; simp only [Act.put, List.setIfInBounds_toArray, List.set_cons_zero, List.set_cons_succ, i64_w, i32_w]; rfl)
          refine pure_ (i := 2) (N := some 16) (v := ?vv103) (a' := ?aa103) #[true, true, true, false, false, false, false, false, false, false] rfl rfl (by kernel_rfl) (fun _ _ _ h => h) (Or.inl ⟨by rfl, ?hr103⟩) ?ha103 ?hh103
          case hr103 => (intro w'; go_simp; with_reducible rfl)
          case ha103 => (simp only [Act.put, List.setIfInBounds_toArray, List.set_cons_zero, List.set_cons_succ, i64_w, i32_w]; rfl)
          refine pure_ (i := 3) (N := some 17) (v := ?vv104) (a' := ?aa104) #[true, true, true, true, false, false, false, false, false, false] rfl rfl (by kernel_rfl) (fun _ _ _ h => h) (Or.inl ⟨by rfl, ?hr104⟩) ?ha104 ?hh104
          case hr104 => (intro w'; go_simp; with_reducible rfl)
          case ha104 => (simp only [Act.put, List.setIfInBounds_toArray, List.set_cons_zero, List.set_cons_succ, i64_w, i32_w]; rfl)
          refine pure_ (i := 4) (N := some 18) (v := undef) (a' := ?aa105) #[true, true, true, true, true, false, false, false, false, false] rfl rfl (by kernel_rfl) (fun _ _ _ h => h) (Or.inr ⟨by rfl, rfl⟩) ?ha105 ?hh105
          case ha105 => (simp only [Act.put, List.setIfInBounds_toArray, List.set_cons_zero, List.set_cons_succ, i64_w, i32_w]; rfl)
          refine pure_ (i := 5) (N := some 19) (v := undef) (a' := ?aa106) #[true, true, true, true, true, true, false, false, false, false] rfl rfl (by kernel_rfl) (fun _ _ _ h => h) (Or.inr ⟨by rfl, rfl⟩) ?ha106 ?hh106
          case ha106 => (simp only [Act.put, List.setIfInBounds_toArray, List.set_cons_zero, List.set_cons_succ, i64_w, i32_w]; rfl)
          refine pure_ (i := 6) (N := some 20) (v := undef) (a' := ?aa107) #[true, true, true, true, true, true, true, false, false, false] rfl rfl (by kernel_rfl) (fun _ _ _ h => h) (Or.inr ⟨by rfl, rfl⟩) ?ha107 ?hh107
          case ha107 => (simp only [Act.put, List.setIfInBounds_toArray, List.set_cons_zero, List.set_cons_succ, i64_w, i32_w]; rfl)
          refine pure_ (i := 7) (N := some 21) (v := undef) (a' := ?aa108) #[true, true, true, true, true, true, true, true, false, false] rfl rfl (by kernel_rfl) (fun _ _ _ h => h) (Or.inr ⟨by rfl, rfl⟩) ?ha108 ?hh108
          case ha108 => (simp only [Act.put, List.setIfInBounds_toArray, List.set_cons_zero, List.set_cons_succ, i64_w, i32_w]; rfl)
          refine pure_ (i := 8) (N := some 22) (v := undef) (a' := ?aa109) #[true, true, true, true, true, true, true, true, true, false] rfl rfl (by kernel_rfl) (fun _ _ _ h => h) (Or.inr ⟨by rfl, rfl⟩) ?ha109 ?hh109
          case ha109 => (simp only [Act.put, List.setIfInBounds_toArray, List.set_cons_zero, List.set_cons_succ, i64_w, i32_w]; rfl)
          refine pure_ (i := 9) (N := some 23) (v := ?vv110) (a' := ?aa110) #[true, true, true, true, true, true, true, true, true, true] rfl rfl (by kernel_rfl) (fun _ _ _ h => h) (Or.inl ⟨by rfl, ?hr110⟩) ?ha110 ?hh110
          case hr110 => (intro w'; go_simp; with_reducible rfl)
          case ha110 => (simp only [Act.put, List.setIfInBounds_toArray, List.set_cons_zero, List.set_cons_succ, i64_w, i32_w]; rfl)
          refine done_ (by kernel_rfl) ?_
          try go_wp2
          go_roundg k1
          case measure => omega
          case rel => exact ⟨i + 1, by first | rfl | (rw [hw]), ⟨by have := HI.out; omega⟩, H, ⟨S2.out.bel⟩⟩
        · rw [if_neg cf] at H1
          have cne : (a == 8 && (b == 11 && (d == 52))) = false := by
            rw [Bool.eq_false_iff]
            intro e
            simp only [Bool.and_eq_true, beq_iff_eq] at e
            exact cf (by rw [e.1, e.2.1, e.2.2])
          have cnp : ¬(a = 8 ∧ b = 11 ∧ d = 52) := fun e => cf (by rw [e.1, e.2.1, e.2.2])
          have H2 : (flt_format_widen.f a b d k).bind (fun x => if x = a0 then some (k, a) else narrowL a0 (fmtL.drop (i + 1))) = some (r1, r2) := H1
          obtain ⟨x, hx, H3⟩ := Option.bind_eq_some_iff.1 H2
          have A2 := Aside0.mk hx
          clear hx H1 H2
          by_cases cx : x = a0
          · rw [if_pos cx] at H3
            simp only [Option.some.injEq, Prod.mk.injEq] at H3
            obtain ⟨rfl, rfl⟩ := H3
            have cx1 : (x == a0) = true := beq_iff_eq.mpr cx
            clear cx cf
            go_wp2_with (first | (go_at_call 64; (with_reducible refine (flt_format_narrow.calls 100 a b d a0 k _ A1.out).mono ?_); rintro e w2 ⟨rfl, hb⟩; have BK2 : w2.heap[wr.heap.size]? = some (.cells #[.int .i64 a, .int .i64 b, .int .i64 d] 84 (0, 0)) := by {rw [hb.block _ (by simp)]; exact heap_new wr _}; have HB2 := Aside0.mk (below_step (below_alloc HB.out _) hb); have hz0 : w2.cell? ⟨wr.heap.size, 0, none⟩ = some (.int .i64 a) := (blk_cell BK2 0).trans rfl; have hz1 : w2.cell? ⟨wr.heap.size, 1, none⟩ = some (.int .i64 b) := (blk_cell BK2 1).trans rfl; have hz2 : w2.cell? ⟨wr.heap.size, 2, none⟩ = some (.int .i64 d) := (blk_cell BK2 2).trans rfl; have hf0 := blk_frozen BK2 0; have hf1 := blk_frozen BK2 1; have hf2 := blk_frozen BK2 2))
            have S2 : Aside0 (SS w wr.heap.size a b d w2) := ⟨⟨BK2, HB2.out⟩⟩
            clear hz0 hz1 hz2 hf0 hf1 hf2 BK2 HB2 hb
            refine start_ (n := 10) (S := fun w' => w'.cell? ⟨wr.heap.size, 0, none⟩ = some (.int .i64 a) ∧ w'.cell? ⟨wr.heap.size, 1, none⟩ = some (.int .i64 b) ∧ w'.cell? ⟨wr.heap.size, 2, none⟩ = some (.int .i64 d) ∧ SS w wr.heap.size a b d w') (ds := []) #[false, false, false, false, false, false, false, false, false, false] (by kernel_rfl) rfl rfl (mkS (ss_drew S2.out)) (fun hHeld => ?_)
            have n0_ := Aside0.mk (ss_drew S2.out)
            clear S2
            have S2 := n0_
            clear n0_
            generalize w2.drew = w4 at S2 hHeld ⊢
            refine take_ (i := 0) (N := some 14) (v := ?vv201) (a' := ?aa201) #[true, false, false, false, false, false, false, false, false, false] rfl rfl (by kernel_rfl) (fun _ _ _ h => h) (Or.inl ⟨by rfl, ?hr201⟩) hHeld ?ha201 ?hh201
            case hr201 => (rintro w' ⟨s0, s1, s2, s3⟩; go_simp; with_reducible rfl)
            case ha201 => (simp only [Act.put, List.setIfInBounds_toArray, List.set_cons_zero, List.set_cons_succ, i64_w, i32_w]; rfl)
            refine one_ (i := 1) (N := some 15) #[true, true, false, false, false, false, false, false, false, false] rfl rfl (by kernel_rfl) (by decide) (fun K hK => ?_)
            refine goes_ Tryd.func65 (by kernel_rfl) rfl #[] (by rfl) rfl rfl (by (try simp only [List.map_toArray, List.map_cons, List.map_nil]); first | done | rfl) ?_
            with_reducible refine (flt_wide.calls 8 11 52 _ rfl).mono ?_
            rintro e w5 ⟨rfl, hb⟩
            refine ⟨_, rfl, ?_⟩
            have n0_ := ss_below S2.out hb
            clear S2 hb
            have S2 := Aside0.mk n0_
            clear n0_
            refine hK.out _ _ (mkS S2.out) (fun hHeld => ?_)
            clear hK K
            refine norm_ (a' := ?aa202) ?ha202 ?hh202
            case ha202 => (show Act.put _ (some 15) _ = _; simp only [Act.put, List.setIfInBounds_toArray, List.set_cons_zero, List.set_cons_succ, i64_w, i32_w]; rfl)
            refine pure_ (i := 2) (N := some 16) (v := .bool true) (a' := ?aa203) #[true, true, true, false, false, false, false, false, false, false] rfl rfl (by kernel_rfl) (fun _ _ _ h => h) (Or.inl ⟨by rfl, ?hr203⟩) ?ha203 ?hh203
            case hr203 => (intro w'; go_simp; (first | done | rfl | exact cnp | (simp; exact cnp) | (intro h1 h2 h3; exact cnp ⟨h1, h2, h3⟩)))
            case ha203 => (simp only [Act.put, List.setIfInBounds_toArray, List.set_cons_zero, List.set_cons_succ, i64_w, i32_w]; rfl)
            refine pure_ (i := 3) (N := some 17) (v := ?vv204) (a' := ?aa204) #[true, true, true, true, false, false, false, false, false, false] rfl rfl (by kernel_rfl) (fun _ _ _ h => h) (Or.inl ⟨by rfl, ?hr204⟩) ?ha204 ?hh204
            case hr204 => (intro w'; go_simp; with_reducible rfl)
            case ha204 => (simp only [Act.put, List.setIfInBounds_toArray, List.set_cons_zero, List.set_cons_succ, i64_w, i32_w]; rfl)
            refine take_ (i := 4) (N := some 18) (v := ?vv205) (a' := ?aa205) #[true, true, true, true, true, false, false, false, false, false] rfl rfl (by kernel_rfl) (fun _ _ _ h => h) (Or.inl ⟨by rfl, ?hr205⟩) hHeld ?ha205 ?hh205
            case hr205 => (rintro w' ⟨s0, s1, s2, s3⟩; go_simp; with_reducible rfl)
            case ha205 => (simp only [Act.put, List.setIfInBounds_toArray, List.set_cons_zero, List.set_cons_succ, i64_w, i32_w]; rfl)
            refine pure_ (i := 5) (N := some 19) (v := ?vv206) (a' := ?aa206) #[true, true, true, true, true, true, false, false, false, false] rfl rfl (by kernel_rfl) (fun _ _ _ h => h) (Or.inl ⟨by rfl, ?hr206⟩) ?ha206 ?hh206
            case hr206 => (intro w'; go_simp; with_reducible rfl)
            case ha206 => (simp only [Act.put, List.setIfInBounds_toArray, List.set_cons_zero, List.set_cons_succ, i64_w, i32_w]; rfl)
            refine pure_ (i := 7) (N := some 21) (v := ?vv207) (a' := ?aa207) #[true, true, true, true, true, true, false, true, false, false] rfl rfl (by kernel_rfl) (fun _ _ _ h => h) (Or.inl ⟨by rfl, ?hr207⟩) ?ha207 ?hh207
            case hr207 => (intro w'; go_simp; with_reducible rfl)
            case ha207 => (simp only [Act.put, List.setIfInBounds_toArray, List.set_cons_zero, List.set_cons_succ, i64_w, i32_w]; rfl)
            refine one_ (i := 6) (N := some 20) #[true, true, true, true, true, true, true, true, false, false] rfl rfl (by kernel_rfl) (by decide) (fun K hK => ?_)
            refine goes_ Tryd.func62 (by kernel_rfl) rfl #[.agg #[.int .i64 a, .int .i64 b, .int .i64 d], .int .u64 k] (by rfl) rfl rfl (by (try simp only [List.map_toArray, List.map_cons, List.map_nil]); first | done | rfl) ?_
            with_reducible refine (flt_format_widen.calls a b d k x _ A2.out).mono ?_
            rintro e w6 ⟨rfl, hb⟩
            refine ⟨_, rfl, ?_⟩
            have n0_ := ss_below S2.out hb
            clear S2 hb
            have S2 := Aside0.mk n0_
            clear n0_
            refine hK.out _ _ (mkS S2.out) (fun hHeld => ?_)
            clear hK K
            refine norm_ (a' := ?aa208) ?ha208 ?hh208
            case ha208 => (show Act.put _ (some 20) _ = _; simp only [Act.put, List.setIfInBounds_toArray, List.set_cons_zero, List.set_cons_succ, i64_w, i32_w]; rfl)
            refine pure_ (i := 8) (N := some 22) (v := ?vv209) (a' := ?aa209) #[true, true, true, true, true, true, true, true, true, false] rfl rfl (by kernel_rfl) (fun _ _ _ h => h) (Or.inl ⟨by rfl, ?hr209⟩) ?ha209 ?hh209
            case hr209 => (intro w'; go_simp; with_reducible rfl)
            case ha209 => (simp only [Act.put, List.setIfInBounds_toArray, List.set_cons_zero, List.set_cons_succ, i64_w, i32_w]; rfl)
            refine pure_ (i := 9) (N := some 23) (v := ?vv210) (a' := ?aa210) #[true, true, true, true, true, true, true, true, true, true] rfl rfl (by kernel_rfl) (fun _ _ _ h => h) (Or.inl ⟨by rfl, ?hr210⟩) ?ha210 ?hh210
            case hr210 => (intro w'; go_simp; with_reducible rfl)
            case ha210 => (simp only [Act.put, List.setIfInBounds_toArray, List.set_cons_zero, List.set_cons_succ, i64_w, i32_w]; rfl)
            refine done_ (by kernel_rfl) ?_
            try go_wp2
            have hs0 := (mkS S2.out).1
            have HB6 := Aside0.mk S2.out.bel
            clear hHeld S2 HB
            go_quiet (fail)
            try go_wp2
            go_ret2
            exact ⟨rfl, by repeat (first | (with_reducible first | exact HB6.out | apply pw_below_drewN | apply below_drew1 | apply below_drew) | exact HB6.out)⟩
          · rw [if_neg cx] at H3
            have H := Aside0.mk H3
            have cx1 : (x == a0) = false := beq_eq_false_iff_ne.mpr cx
            clear H3 cx cf
            go_wp2_with (first | (go_at_call 64; (with_reducible refine (flt_format_narrow.calls 100 a b d a0 k _ A1.out).mono ?_); rintro e w2 ⟨rfl, hb⟩; have BK2 : w2.heap[wr.heap.size]? = some (.cells #[.int .i64 a, .int .i64 b, .int .i64 d] 84 (0, 0)) := by {rw [hb.block _ (by simp)]; exact heap_new wr _}; have HB2 := Aside0.mk (below_step (below_alloc HB.out _) hb); have hz0 : w2.cell? ⟨wr.heap.size, 0, none⟩ = some (.int .i64 a) := (blk_cell BK2 0).trans rfl; have hz1 : w2.cell? ⟨wr.heap.size, 1, none⟩ = some (.int .i64 b) := (blk_cell BK2 1).trans rfl; have hz2 : w2.cell? ⟨wr.heap.size, 2, none⟩ = some (.int .i64 d) := (blk_cell BK2 2).trans rfl; have hf0 := blk_frozen BK2 0; have hf1 := blk_frozen BK2 1; have hf2 := blk_frozen BK2 2))
            have S2 : Aside0 (SS w wr.heap.size a b d w2) := ⟨⟨BK2, HB2.out⟩⟩
            clear hz0 hz1 hz2 hf0 hf1 hf2 BK2 HB2 hb
            refine start_ (n := 10) (S := fun w' => w'.cell? ⟨wr.heap.size, 0, none⟩ = some (.int .i64 a) ∧ w'.cell? ⟨wr.heap.size, 1, none⟩ = some (.int .i64 b) ∧ w'.cell? ⟨wr.heap.size, 2, none⟩ = some (.int .i64 d) ∧ SS w wr.heap.size a b d w') (ds := []) #[false, false, false, false, false, false, false, false, false, false] (by kernel_rfl) rfl rfl (mkS (ss_drew S2.out)) (fun hHeld => ?_)
            have n0_ := Aside0.mk (ss_drew S2.out)
            clear S2
            have S2 := n0_
            clear n0_
            generalize w2.drew = w4 at S2 hHeld ⊢
            refine take_ (i := 0) (N := some 14) (v := ?vv301) (a' := ?aa301) #[true, false, false, false, false, false, false, false, false, false] rfl rfl (by kernel_rfl) (fun _ _ _ h => h) (Or.inl ⟨by rfl, ?hr301⟩) hHeld ?ha301 ?hh301
            case hr301 => (rintro w' ⟨s0, s1, s2, s3⟩; go_simp; with_reducible rfl)
            case ha301 => (simp only [Act.put, List.setIfInBounds_toArray, List.set_cons_zero, List.set_cons_succ, i64_w, i32_w]; rfl)
            refine one_ (i := 1) (N := some 15) #[true, true, false, false, false, false, false, false, false, false] rfl rfl (by kernel_rfl) (by decide) (fun K hK => ?_)
            refine goes_ Tryd.func65 (by kernel_rfl) rfl #[] (by rfl) rfl rfl (by (try simp only [List.map_toArray, List.map_cons, List.map_nil]); first | done | rfl) ?_
            with_reducible refine (flt_wide.calls 8 11 52 _ rfl).mono ?_
            rintro e w5 ⟨rfl, hb⟩
            refine ⟨_, rfl, ?_⟩
            have n0_ := ss_below S2.out hb
            clear S2 hb
            have S2 := Aside0.mk n0_
            clear n0_
            refine hK.out _ _ (mkS S2.out) (fun hHeld => ?_)
            clear hK K
            refine norm_ (a' := ?aa302) ?ha302 ?hh302
            case ha302 => (show Act.put _ (some 15) _ = _; simp only [Act.put, List.setIfInBounds_toArray, List.set_cons_zero, List.set_cons_succ, i64_w, i32_w]; rfl)
            refine pure_ (i := 2) (N := some 16) (v := .bool true) (a' := ?aa303) #[true, true, true, false, false, false, false, false, false, false] rfl rfl (by kernel_rfl) (fun _ _ _ h => h) (Or.inl ⟨by rfl, ?hr303⟩) ?ha303 ?hh303
            case hr303 => (intro w'; go_simp; (first | done | rfl | exact cnp | (simp; exact cnp) | (intro h1 h2 h3; exact cnp ⟨h1, h2, h3⟩)))
            case ha303 => (simp only [Act.put, List.setIfInBounds_toArray, List.set_cons_zero, List.set_cons_succ, i64_w, i32_w]; rfl)
            refine pure_ (i := 3) (N := some 17) (v := ?vv304) (a' := ?aa304) #[true, true, true, true, false, false, false, false, false, false] rfl rfl (by kernel_rfl) (fun _ _ _ h => h) (Or.inl ⟨by rfl, ?hr304⟩) ?ha304 ?hh304
            case hr304 => (intro w'; go_simp; with_reducible rfl)
            case ha304 => (simp only [Act.put, List.setIfInBounds_toArray, List.set_cons_zero, List.set_cons_succ, i64_w, i32_w]; rfl)
            refine take_ (i := 4) (N := some 18) (v := ?vv305) (a' := ?aa305) #[true, true, true, true, true, false, false, false, false, false] rfl rfl (by kernel_rfl) (fun _ _ _ h => h) (Or.inl ⟨by rfl, ?hr305⟩) hHeld ?ha305 ?hh305
            case hr305 => (rintro w' ⟨s0, s1, s2, s3⟩; go_simp; with_reducible rfl)
            case ha305 => (simp only [Act.put, List.setIfInBounds_toArray, List.set_cons_zero, List.set_cons_succ, i64_w, i32_w]; rfl)
            refine pure_ (i := 5) (N := some 19) (v := ?vv306) (a' := ?aa306) #[true, true, true, true, true, true, false, false, false, false] rfl rfl (by kernel_rfl) (fun _ _ _ h => h) (Or.inl ⟨by rfl, ?hr306⟩) ?ha306 ?hh306
            case hr306 => (intro w'; go_simp; with_reducible rfl)
            case ha306 => (simp only [Act.put, List.setIfInBounds_toArray, List.set_cons_zero, List.set_cons_succ, i64_w, i32_w]; rfl)
            refine pure_ (i := 7) (N := some 21) (v := ?vv307) (a' := ?aa307) #[true, true, true, true, true, true, false, true, false, false] rfl rfl (by kernel_rfl) (fun _ _ _ h => h) (Or.inl ⟨by rfl, ?hr307⟩) ?ha307 ?hh307
            case hr307 => (intro w'; go_simp; with_reducible rfl)
            case ha307 => (simp only [Act.put, List.setIfInBounds_toArray, List.set_cons_zero, List.set_cons_succ, i64_w, i32_w]; rfl)
            refine one_ (i := 6) (N := some 20) #[true, true, true, true, true, true, true, true, false, false] rfl rfl (by kernel_rfl) (by decide) (fun K hK => ?_)
            refine goes_ Tryd.func62 (by kernel_rfl) rfl #[.agg #[.int .i64 a, .int .i64 b, .int .i64 d], .int .u64 k] (by rfl) rfl rfl (by (try simp only [List.map_toArray, List.map_cons, List.map_nil]); first | done | rfl) ?_
            with_reducible refine (flt_format_widen.calls a b d k x _ A2.out).mono ?_
            rintro e w6 ⟨rfl, hb⟩
            refine ⟨_, rfl, ?_⟩
            have n0_ := ss_below S2.out hb
            clear S2 hb
            have S2 := Aside0.mk n0_
            clear n0_
            refine hK.out _ _ (mkS S2.out) (fun hHeld => ?_)
            clear hK K
            refine norm_ (a' := ?aa308) ?ha308 ?hh308
            case ha308 => (show Act.put _ (some 20) _ = _; simp only [Act.put, List.setIfInBounds_toArray, List.set_cons_zero, List.set_cons_succ, i64_w, i32_w]; rfl)
            refine pure_ (i := 8) (N := some 22) (v := ?vv309) (a' := ?aa309) #[true, true, true, true, true, true, true, true, true, false] rfl rfl (by kernel_rfl) (fun _ _ _ h => h) (Or.inl ⟨by rfl, ?hr309⟩) ?ha309 ?hh309
            case hr309 => (intro w'; go_simp; with_reducible rfl)
            case ha309 => (simp only [Act.put, List.setIfInBounds_toArray, List.set_cons_zero, List.set_cons_succ, i64_w, i32_w]; rfl)
            refine pure_ (i := 9) (N := some 23) (v := ?vv310) (a' := ?aa310) #[true, true, true, true, true, true, true, true, true, true] rfl rfl (by kernel_rfl) (fun _ _ _ h => h) (Or.inl ⟨by rfl, ?hr310⟩) ?ha310 ?hh310
            case hr310 => (intro w'; go_simp; with_reducible rfl)
            case ha310 => (simp only [Act.put, List.setIfInBounds_toArray, List.set_cons_zero, List.set_cons_succ, i64_w, i32_w]; rfl)
            refine done_ (by kernel_rfl) ?_
            try go_wp2
            go_roundg k1
            case measure => omega
            case rel => exact ⟨i + 1, by first | rfl | (rw [hw]), ⟨by have := HI.out; omega⟩, H, ⟨S2.out.bel⟩⟩
      · have c0 : decide ((i : Int) < 3) = false := by simp; omega
        have hi3 : i = 3 := by have := HI.out; omega
        have H2 := H.out
        rw [hi3] at H2
        have H3 : (some (a0, (8 : Int))) = some (r1, r2) := H2
        simp only [Option.some.injEq, Prod.mk.injEq] at H3
        obtain ⟨rfl, rfl⟩ := H3
        clear H2 hi3
        have fd : ∀ W, (Instr.field 84 (.agg #[.int .i64 8, .int .i64 11, .int .i64 52]) 0).run Tryd.prog W = .ok (.int .i64 8) W := by intro W; kernel_rfl
        go_wp2_with (go_at_call 65; (with_reducible refine (flt_wide.calls 8 11 52 _ rfl).mono ?_); rintro e w3 ⟨rfl, hb3⟩)
        go_ret2
        exact ⟨rfl, below_step HB.out hb3⟩
end Go.Proofs.YtfndkpifgmcomaaDoor.XD
