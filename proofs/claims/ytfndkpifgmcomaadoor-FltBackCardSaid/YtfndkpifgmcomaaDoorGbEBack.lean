/- Part of this claim: EBack. -/
import Derived.RangeFuncNested
import Derived.RangeFuncBound
import Derived.RangeFuncBox
import Derived.RangeFuncCalls
import Derived.RangeFuncLeaves
import Derived.Shelf.Abstract
import Derived.Shelf.RegionOpen
import Derived.WalkKit
import Derived.OwnWalkIn
import Derived.TacticsInMore
import Derived.LoopNIn
import Derived.LoopIn
import Derived.Test.YtfndkpifgmcomaaDoorGbXM1
namespace Go.Proofs.YtfndkpifgmcomaaDoor.XD
open Go.RowKit Go.Shelf Go.Proofs.YtfndkpifgmcomaaDoorW.PrintWords Go.Proofs.YtfndkpifgmcomaaDoorW.PrintLast Go.Proofs.YtfndkpifgmcomaaDoorW.PrintMore
attribute [local go_sem] Oper.semAt_some
set_option linter.unusedVariables false
def Words (n₀ : Nat) (W : World) (sv : Value) (zs : List Int) : Prop :=
  ∃ a cap, sv = .slice a zs.length cap ∧ (zs.length ≤ 9223372036854775807) ∧ (0 < zs.length → ∃ ad : Addr, a = some ad ∧ ad.block < n₀ ∧ ∀ j, j < zs.length → W.cell? (ad.add j) = some (.int .u64 (zs.getD j 0)))
theorem add_block (ad : Addr) (j : Nat) : (ad.add j).block = ad.block := by unfold Addr.add; split <;> rfl
theorem Words.below {n₀ : Nat} {A B : World} (h : Below n₀ A B) {sv : Value} {zs : List Int} (hw : Words n₀ A sv zs) : Words n₀ B sv zs := by
  obtain ⟨a, cap, e, hm, hc⟩ := hw
  refine ⟨a, cap, e, hm, fun h0 => ?_⟩
  obtain ⟨ad, ea, hb, hcell⟩ := hc h0
  exact ⟨ad, ea, hb, fun j hj => (h.cell (p := ad.add j) (by rw [add_block]; exact hb)).trans (hcell j hj)⟩
def KpB (n₀ Bs : Nat) (A B : World) : Prop := Below n₀ A B ∧ B.heap[Bs]? = A.heap[Bs]?
theorem KpB.trans {n₀ Bs : Nat} {A B C : World} (h : KpB n₀ Bs A B) (k : KpB n₀ Bs B C) : KpB n₀ Bs A C := ⟨h.1.trans k.1, k.2.trans h.2⟩
theorem KpB.cell {n₀ Bs : Nat} {A B : World} (h : KpB n₀ Bs A B) (o : Nat) : B.cell? ⟨Bs, o, none⟩ = A.cell? ⟨Bs, o, none⟩ := by simp only [World.cell?, h.2]
theorem KpB.put {n₀ Bs : Nat} {w : World} (h0 : n₀ ≤ w.heap.size) (hB : Bs < w.heap.size) : ∀ (W : World) (l : Nat) (o o' : Obj), w.heap.size ≤ l → W.heap[l]? = some o → o.isCells = false → o.isWalk = false → KpB n₀ Bs W (W.putObj l o') :=
  fun W l o o' hl ho hc hw => ⟨belowK_b h0 W l o o' hl ho hc hw, World.putObj_heap_other (by omega)⟩
set_option maxRecDepth 100000 in
set_option maxHeartbeats 2000000 in
theorem back1_in {β : Type} (g : β → Int) (F : Fence) (n : Nat) (h144 : F.fn 144) (hro : F.round = none) (hn : 1 ≤ n) (l Bs n₀ : Nat) (sv : Value) (zs : List β) (J Jx : List (Int × β) → World → Prop)
    (hY : ∀ pre x W, J pre W → pre.length < zs.length → YieldAt F (n - 1) Tryd.prog l #[.int .i64 x.1, .int .u64 (g x.2)] W fun e W' =>
      (e = .returned (.bool true) ∧ J (pre ++ [x]) W' ∧ KpB n₀ Bs W W') ∨ (e = .returned (.bool false) ∧ Jx (pre ++ [x]) W'))
    (W : World) (hBs : W.cell? ⟨Bs, 0, none⟩ = some sv) (hw : Words n₀ W sv (zs.map g)) (h0 : J [] W) :
    CallsIn F n Tryd.prog 144 #[.func (.yield l) #[] #[], .pointer (some ⟨Bs, 0, none⟩)] W fun e W' => (∃ v, e = .returned v) ∧
      ((∃ ys : List (Int × β), ys.map (·.2) = zs.reverse ∧ J ys W') ∨ (∃ pre, True ∧ Jx pre W')) := by
  obtain ⟨a, cap, rfl, hm, hc⟩ := hw
  rw [List.length_map] at hm hc hBs
  refine callsIn_of_wp Tryd.func144 rfl h144 ?_ hro
  simp only [Tryd.ntmps144, List.size_toArray, List.length_cons, List.length_nil, Nat.reduceAdd, Nat.reduceSub, Array.replicate_succ, Array.replicate_zero, List.push_toArray, List.append_toArray, List.nil_append, List.cons_append]
  gi_wp2
  gi_loopw [3] (fun i wr => ∃ (m : Nat) (pre : List (Int × β)), m ≤ zs.length ∧ i = .int .i64 ((m : Int) - 1) ∧ Hid (pre.map (·.2) = zs.reverse.take (zs.length - m)) ∧ J pre wr ∧ KpB n₀ Bs W wr)
    (fun i _ => (intOf i + 1).toNat)
  case atStart => exact ⟨zs.length, [], Nat.le_refl _, rfl, by simp [Hid], h0, Below.refl _ _, rfl⟩
  case round =>
    obtain ⟨m, pre, hk, rfl, hpre, hJs, hnx⟩ := hrel
    have hBs' : wr.cell? ⟨Bs, 0, none⟩ = some (.slice a zs.length cap) := (hnx.cell 0).trans hBs
    cases m with
    | zero =>
      rw [show ((0 : Nat) : Int) - 1 = -1 from rfl]
      gi_wp2
      go_end0
      exact ⟨⟨_, rfl⟩, .inl ⟨pre, by have := hpre.out; rw [Nat.sub_zero, List.take_of_length_le (by simp)] at this; exact this, hJs⟩⟩
    | succ j =>
      rw [show ((j + 1 : Nat) : Int) - 1 = (j : Int) from by omega]
      obtain ⟨ad, rfl, hb, hcell⟩ := hc (by omega)
      have hpl : pre.length = zs.length - (j + 1) := by have := congrArg List.length hpre.out; simp at this; omega
      obtain ⟨z, hz⟩ : ∃ z, zs[j]? = some z := ⟨zs[j], List.getElem?_eq_getElem (by omega)⟩
      have hx : wr.cell? (ad.add j) = some (.int .u64 (g z)) := by
        have := (hnx.1.cell (p := ad.add j) (by rw [add_block]; exact hb)).trans (hcell j (by omega))
        rw [this, List.getD_eq_getElem?_getD, List.getElem?_map, hz]
        rfl
      obtain ⟨fn, tmps, assign, body, hy, hR⟩ := hY pre ((j : Int), z) wr hJs (by omega)
      dsimp only at hy
      have hjl : (j : Int) < (zs.length : Int) := by omega
      have HP : Hid ((pre ++ [((j : Int), z)]).map (·.2) = zs.reverse.take (zs.length - j)) := by
        have h1 := hpre.out
        show _ = _
        rw [List.map_append, h1, show zs.length - j = (zs.length - (j + 1)) + 1 from by omega, List.take_succ_eq_append_getElem (by simp; omega), List.getElem_reverse]
        congr 1
        rw [List.getElem?_eq_getElem (show j < zs.length by omega)] at hz
        injection hz with hz
        subst hz
        simp [show zs.length - 1 - (zs.length - (j + 1)) = j from by omega]
      clear hpre hcell hc hz
      gi_wp2
      refine hR.mono ?_
      rintro e W3 (⟨rfl, hJ3, hk3⟩ | ⟨rfl, hJx3⟩)
      · gi_wp2
        go_roundw
        case rel => exact ⟨j, _, by omega, rfl, HP, hJ3, hnx.trans hk3⟩
        case measure => simp [intOf]
      · gi_wp2
        refine bodyPost_ret (results_none rfl _ _ _) rfl ?_
        exact ⟨⟨_, rfl⟩, .inr ⟨_, trivial, hJx3⟩⟩
set_option maxHeartbeats 1000000 in
theorem back_in (F : Fence) (n : Nat) (h127 : F.fn 127) (hro : F.round = none) (a : Option Addr) (len cap : Nat) (w : World) :
    CallsIn F n Tryd.prog 127 #[.slice a len cap] w fun e w' => e = .returned (.func (.func 144) #[] #[.pointer (some ⟨w.heap.size, 0, none⟩)]) ∧ w' = w.alloc (.cells #[.slice a len cap] 73) := by
  refine callsIn_of_wp Tryd.func127 rfl h127 ?_ hro
  simp only [Tryd.ntmps127, List.size_toArray, List.length_cons, List.length_nil, Nat.reduceAdd, Nat.reduceSub, Array.replicate_succ, Array.replicate_zero, List.push_toArray, List.append_toArray, List.nil_append, List.cons_append]
  gi_wp2
  go_ret
  exact ⟨rfl, rfl⟩
theorem back_stops {β : Type} (g : β → Int) (F : Fence) (n : Nat) (h144 : F.fn 144) (hro : F.round = none) (hn : 1 ≤ n) (Bs n₀ : Nat) (sv : Value) (zs : List β) (w : World) (hBs : Bs < w.heap.size) (hn₀ : n₀ ≤ w.heap.size)
    (hc : w.cell? ⟨Bs, 0, none⟩ = some sv) (hI : Words n₀ w sv (zs.map g)) :
    SeqStopsK F n Tryd.prog 144 #[.pointer (some ⟨Bs, 0, none⟩)] (fun x : Int × β => #[Value.int .i64 x.1, Value.int .u64 (g x.2)]) (KpB n₀ Bs) (fun ys => ys.map (·.2) = zs.reverse) (fun _ => True) zs.length w := fun l J Jx W hW _ _ hY h0 => by
  have hc' := (hW.cell (p := ⟨Bs, 0, none⟩) hBs).trans hc
  refine (back1_in g F n h144 hro hn l Bs n₀ sv zs J Jx hY W hc' (hI.below (hW.mono hn₀)) h0).mono ?_
  rintro e W' ⟨he, ⟨ys, h1, hj⟩ | ⟨pre, h1, hj⟩⟩
  · exact ⟨he, .inl ⟨ys, h1, hj⟩⟩
  · exact ⟨he, .inr ⟨pre, h1, hj⟩⟩
end Go.Proofs.YtfndkpifgmcomaaDoor.XD
