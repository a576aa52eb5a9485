/- Part of this claim: QNarrow, QAlive, QSigns, QFWide. -/
import Derived.Laws.Bits64
import Derived.Test.YtfndkpifgmcomaaDoorGwXM1
import Derived.Test.YtfndkpifgmcomaaDoorGwXM4
import Derived.Test.YtfndkpifgmcomaaDoorGwQM3
import Derived.Test.YtfndkpifgmcomaaDoorGwXM2
import Derived.Test.YtfndkpifgmcomaaDoorGwEFlt
section
namespace Go.Proofs.YtfndkpifgmcomaaDoor.Q
open Go Go.RowKit Go.Proofs.YtfndkpifgmcomaaDoor.XD Go.Proofs.YtfndkpifgmcomaaDoorW.PrintWords Go.Proofs.YtfndkpifgmcomaaDoorW.PrintLast Go.Proofs.YtfndkpifgmcomaaDoorW.PrintMore
set_option linter.unusedVariables false
theorem widen8 (n : Nat) (hn : n < 18446744073709551616) : flt_format_widen.f 8 11 52 (n : Int) = some (n : Int) := by
  unfold flt_format_widen.f
  rw [show flt_wide.f = some (8, 11, 52) from rfl, Option.bind_some, parts8 n hn, Option.bind_some]
  dsimp only
  rw [if_pos (by decide)]
theorem WidenH (n : Nat) (hn : n < 18446744073709551616) : flt_Widen.f (n : Int) 2 = some (if n < 65536 then ((widH n : Int), 0) else (0, 1)) := by
  have hb := bl_le (x := n) (j := 16) (by omega) hn
  rw [show (2 : Nat) ^ 16 = 65536 from rfl] at hb
  unfold flt_Widen.f fmtL
  rw [widenL, if_pos rfl, len_eq n hn, Option.bind_some, show wrap64 (8 * (2 : Int)) = 16 from by decide +kernel]
  by_cases h : n < 65536
  · rw [if_pos h]
    rw [if_pos (by omega), widenH_eq n h, Option.bind_some]
  · rw [if_neg h]
    rw [if_neg (by omega)]
    rw [widenL, if_neg (by decide), widenL, if_neg (by decide), widenL]
theorem WidenS (n : Nat) (hn : n < 18446744073709551616) : flt_Widen.f (n : Int) 4 = some (if n < 4294967296 then ((widS n : Int), 0) else (0, 1)) := by
  have hb := bl_le (x := n) (j := 32) (by omega) hn
  rw [show (2 : Nat) ^ 32 = 4294967296 from rfl] at hb
  unfold flt_Widen.f fmtL
  rw [widenL, if_neg (by decide)]
  rw [widenL, if_pos rfl, len_eq n hn, Option.bind_some, show wrap64 (8 * (4 : Int)) = 32 from by decide +kernel]
  by_cases h : n < 4294967296
  · rw [if_pos h]
    rw [if_pos (by omega), widenS_eq n h, Option.bind_some]
  · rw [if_neg h]
    rw [if_neg (by omega)]
    rw [widenL, if_neg (by decide), widenL]
theorem Widen8 (n : Nat) (hn : n < 18446744073709551616) : flt_Widen.f (n : Int) 8 = some ((n : Int), 0) := by
  have hb := Lib.bitLen_le n 64 (by omega) hn
  unfold flt_Widen.f fmtL
  rw [widenL, if_neg (by decide), widenL, if_neg (by decide), widenL, if_pos rfl, len_eq n hn, Option.bind_some, show wrap64 (8 * (8 : Int)) = 64 from by decide +kernel, if_pos (by omega), widen8 n hn, Option.bind_some]
theorem WidenX (n w : Int) (h2 : w ≠ 2) (h4 : w ≠ 4) (h8 : w ≠ 8) : flt_Widen.f n w = some (0, 1) := by
  unfold flt_Widen.f fmtL
  rw [widenL, if_neg (fun e => h2 e.symm), widenL, if_neg (fun e => h4 e.symm), widenL, if_neg (fun e => h8 e.symm), widenL]
end Go.Proofs.YtfndkpifgmcomaaDoor.Q
end
section
namespace Go.Proofs.YtfndkpifgmcomaaDoor.Q
open Go Go.RowKit Go.Proofs.YtfndkpifgmcomaaDoor.XD Go.Proofs.YtfndkpifgmcomaaDoorW.PrintWords Go.Proofs.YtfndkpifgmcomaaDoorW.PrintLast Go.Proofs.YtfndkpifgmcomaaDoorW.PrintMore
open Go.Proofs.YtfndkpifgmcomaaDoor.QNum (isNum isNum_iff vN decN decN_len decN_isNum vN_decN decN_lt decN_ge decN_ne decN_head vN_lt)
set_option linter.unusedVariables false
theorem widen_one : flt_Widen.f 15360 2 = some (4607182418800017408, 0) := by decide +kernel
theorem narrow_one : flt_Narrow.f 4607182418800017408 = some (15360, 2) := by decide +kernel
theorem tenth : (mw 4591870180066957722 = 3602879701896397 ∧ pw 4591870180066957722 = -55 ∧ mant 4591870180066957722 ≠ 0) := by decide +kernel
theorem tenV : (3602879701896397 * 5 ^ 55) % 10 ≠ 0 ∧ 10 ^ 54 ≤ 3602879701896397 * 5 ^ 55 ∧ 3602879701896397 * 5 ^ 55 < 10 ^ 55 := by decide +kernel
theorem exact_tenth (k : Nat) (hk : 6000000 < k) : ∃ b : ByteArray, flt_Exact.f k 4591870180066957722 = some (false, b, -55, 0) ∧ b.size = 55 := by
  obtain ⟨h1, h2, h3⟩ := tenth
  obtain ⟨v1, v2, v3⟩ := tenV
  have := exact_num 4591870180066957722 (by omega) (by decide) h3 (3602879701896397 * 5 ^ 55) 0 (by rw [h1, h2, Nat.pow_zero, Nat.mul_one]; rfl) v1 k hk
  rw [h2] at this
  refine ⟨bs (decN (3602879701896397 * 5 ^ 55)), this, ?_⟩
  rw [bs_size]
  have l1 := decN_len _ 55 v3 (by omega)
  have l2 := vN_lt (decN (3602879701896397 * 5 ^ 55)).length (decN (3602879701896397 * 5 ^ 55)) rfl ((isNum_iff _).1 (decN_isNum _)).1
  rw [vN_decN] at l2
  rcases Nat.lt_or_ge (decN (3602879701896397 * 5 ^ 55)).length 55 with h | h
  · exfalso
    have : (10 : Nat) ^ (decN (3602879701896397 * 5 ^ 55)).length ≤ 10 ^ 54 := Nat.pow_le_pow_right (by omega) (by omega)
    omega
  · omega
theorem alive7 (k : Nat) (hk : 6000000 < k) : gantlinelaw07_alive.f k = some true := by
  obtain ⟨b, h1, h2⟩ := exact_tenth k hk
  unfold gantlinelaw07_alive.f
  rw [widen_one, Option.bind_some, narrow_one, Option.bind_some, h1, Option.bind_some]
  simp only [if_true, h2]
  rfl
end Go.Proofs.YtfndkpifgmcomaaDoor.Q
end
section
namespace Go.Proofs.YtfndkpifgmcomaaDoor.Q
open Go Go.RowKit Go.Proofs.YtfndkpifgmcomaaDoor.XD Go.Proofs.YtfndkpifgmcomaaDoorW.PrintWords Go.Proofs.YtfndkpifgmcomaaDoorW.PrintLast Go.Proofs.YtfndkpifgmcomaaDoorW.PrintMore
open Go.Proofs.YtfndkpifgmcomaaDoor.QNum (decN decN_ne)
set_option linter.unusedVariables false
theorem wf_u64 {a : Int} (h : (Lit.int .u64 a).wf = true) : 0 ≤ a ∧ a ≤ 18446744073709551615 := by
  simp only [Lit.wf, Bool.and_eq_true, decide_eq_true_eq] at h
  exact h
end Go.Proofs.YtfndkpifgmcomaaDoor.Q
end
section
namespace Go.Proofs.YtfndkpifgmcomaaDoor.Q
open Go Go.RowKit Go.Proofs.YtfndkpifgmcomaaDoor.XD Go.Proofs.YtfndkpifgmcomaaDoorW.PrintWords Go.Proofs.YtfndkpifgmcomaaDoorW.PrintLast Go.Proofs.YtfndkpifgmcomaaDoorW.PrintMore
set_option linter.unusedVariables false
theorem rWiden_eq (n : Nat) (hn : n < 18446744073709551616) (w : Int) (k : Nat) (hk : 1000 < k) : gantlineref07_Widen.f k (n : Int) w = flt_Widen.f (n : Int) w := by
  unfold gantlineref07_Widen.f
  by_cases h2 : w = 2
  · subst h2
    have hs := shr_nat n 16 (by omega)
    rw [show ((16 : Nat) : Int) = 16 from rfl, show (2 : Nat) ^ 16 = 65536 from rfl] at hs
    rw [if_pos rfl, if_pos (by decide), show wrap64 (8 * (2 : Int)) = 16 from by decide +kernel, if_pos (by decide), hs, WidenH n hn]
    by_cases h : n < 65536
    · rw [if_pos (by omega), rwidenH_eq n h k (by omega), Option.bind_some, if_pos h]
    · rw [if_neg (by omega), if_neg h]
  · rw [if_neg h2]
    by_cases h4 : w = 4
    · subst h4
      have hs := shr_nat n 32 (by omega)
      rw [show ((32 : Nat) : Int) = 32 from rfl, show (2 : Nat) ^ 32 = 4294967296 from rfl] at hs
      rw [if_pos rfl, if_pos (by decide), show wrap64 (8 * (4 : Int)) = 32 from by decide +kernel, if_pos (by decide), hs, WidenS n hn]
      by_cases h : n < 4294967296
      · rw [if_pos (by omega), rwidenS_eq n h k (by omega), Option.bind_some, if_pos h]
      · rw [if_neg (by omega), if_neg h]
    · rw [if_neg h4]
      by_cases h8 : w = 8
      · subst h8
        have he : gantlineref07_widen.f k (n : Int) 8 = some (n : Int) := by
          unfold gantlineref07_widen.f
          rw [if_pos rfl]
        rw [if_pos rfl, if_neg (by decide), he, Option.bind_some, Widen8 n hn]
      · rw [if_neg h8, WidenX _ w h2 h4 h8]
theorem Widen_some (n : Nat) (hn : n < 18446744073709551616) (w : Int) : ∃ a b, flt_Widen.f (n : Int) w = some (a, b) := by
  by_cases h2 : w = 2
  · subst h2
    rw [WidenH n hn]
    split <;> exact ⟨_, _, rfl⟩
  · by_cases h4 : w = 4
    · subst h4
      rw [WidenS n hn]
      split <;> exact ⟨_, _, rfl⟩
    · by_cases h8 : w = 8
      · subst h8
        exact ⟨_, _, Widen8 n hn⟩
      · exact ⟨_, _, WidenX _ w h2 h4 h8⟩
end Go.Proofs.YtfndkpifgmcomaaDoor.Q
namespace Go.Proofs.YtfndkpifgmcomaaDoor.Pure
open Go Go.RowKit Go.Proofs.YtfndkpifgmcomaaDoor.XD Go.Proofs.YtfndkpifgmcomaaDoorW.PrintWords Go.Proofs.YtfndkpifgmcomaaDoorW.PrintLast Q
theorem FltWidens : gantlinelaw07_FltWidens.Pure := by
  intro a0 a1 hwf0 hwf1
  obtain ⟨h0, h1⟩ : 0 ≤ a0 ∧ a0 ≤ 18446744073709551615 := wf_u64 hwf0
  obtain ⟨n, rfl⟩ := Int.eq_ofNat_of_zero_le h0
  have hn : n < 18446744073709551616 := by omega
  refine ⟨8000000, ?_⟩
  obtain ⟨a, b, e⟩ := Widen_some n hn a1
  unfold gantlinelaw07_FltWidens.f
  rw [rWiden_eq n hn a1 _ (by omega), e, Option.bind_some, Option.bind_some, if_pos rfl, if_pos rfl, alive7 8000000 (by omega), Option.bind_some]
end Go.Proofs.YtfndkpifgmcomaaDoor.Pure
end
