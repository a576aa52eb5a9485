/- Part of this claim: ETz. -/
import Derived.Shelf.Spec.TrailingZeros
import Derived.Lib.LaidTab
import Derived.Test.YtfndkpifgmcomaaDoorGbXM1
namespace Go.Proofs.YtfndkpifgmcomaaDoor.XD
open Go Go.RowKit Go.Proofs.YtfndkpifgmcomaaDoorW.PrintWords Go.Proofs.YtfndkpifgmcomaaDoorW.PrintLast Go.Proofs.YtfndkpifgmcomaaDoorW.PrintMore
set_option linter.unusedVariables false
theorem gTab : Tryd.prog.globalNamed "math/bits.deBruijn64tab" = some 0 := by kernel_rfl
def Tb (w : World) : Prop := TabAt 0 Lib.deBruijn64tab w
theorem tb_size {w : World} (h : Tb w) : 0 < w.heap.size := by
  have h1 := h 0 (by decide)
  rcases Nat.eq_zero_or_pos w.heap.size with h0 | h0
  · exfalso
    have h2 : w.heap[0]? = none := Array.getElem?_eq_none (by omega)
    simp [World.cell?, h2] at h1
  · exact h0
theorem tb_below {w w' : World} (hb : Below w.heap.size w w') (h : Tb w) : Tb w' := by
  intro j hj
  rw [hb.cell (p := ⟨0, j, none⟩) (tb_size h)]
  exact h j hj
def bits_TrailingZeros64.f (a0 : Int) : Option (Int) := if 0 ≤ a0 ∧ a0 < 18446744073709551616 then some (Lib.ctz 64 a0.toNat) else none
theorem tz_zero (w : World) : Calls Tryd.prog 69 #[.int .u64 0] w fun e w' => e = .returned (.int .i64 64) ∧ w' = w := by
  go_enter Tryd.func69, Tryd.ntmps69
  go_wp2
  go_ret
  exact ⟨rfl, rfl⟩
set_option maxHeartbeats 2000000 in
theorem tz_core (x k idx : Nat) (w : World) (hx0 : ((x : Int) == 0) = false)
    (key : IntKind.u64.wrap (bits BinOp.and IntKind.u64 (x : Int) (IntKind.u64.wrap (-(x : Int))) * 285870213051353865) / 288230376151711744 = (idx : Int))
    (hi : idx < 64) (hk : k < 64) (hcell : w.cell? ⟨0, idx, none⟩ = some (.int .u8 k)) :
    Calls Tryd.prog 69 #[.int .u64 x] w fun e w' => e = .returned (.int .i64 k) ∧ w' = w := by
  go_enter Tryd.func69, Tryd.ntmps69
  go_wp2_with (simp only [key])
  go_ret
  exact ⟨rfl, rfl⟩
theorem bits_TrailingZeros64.calls (a0 : Int) (r : Int) (w : World) (h : bits_TrailingZeros64.f a0 = some r) (hT_ : Tb w) :
    Calls Tryd.prog 69 #[.int .u64 a0] w fun e w' => e = .returned (.int .i64 r) ∧ Drawn0 w w' := by
  unfold bits_TrailingZeros64.f at h
  split at h
  · rename_i hc
    obtain rfl := Option.some.inj h
    obtain ⟨x, rfl⟩ := Int.eq_ofNat_of_zero_le hc.1
    have hx : x < 18446744073709551616 := by omega
    have hd : Drawn0 w w := Drawn0.refl w
    by_cases hx0 : x = 0
    · subst hx0
      refine (tz_zero w).mono ?_
      rintro e w' ⟨rfl, rfl⟩
      exact ⟨rfl, hd⟩
    · obtain ⟨hlow, hk⟩ := Lib.lowest_bit 64 x hx0 hx
      obtain ⟨hi, htab⟩ := Lib.deBruijn64_at _ hk
      have hcell := hT_ _ hi
      rw [htab] at hcell
      refine (tz_core x _ _ w (by simp; omega) (tz64_key x _ hx hx0 hlow) hi hk hcell).mono ?_
      rintro e w' ⟨rfl, rfl⟩
      exact ⟨rfl, hd⟩
  · cases h
end Go.Proofs.YtfndkpifgmcomaaDoor.XD
