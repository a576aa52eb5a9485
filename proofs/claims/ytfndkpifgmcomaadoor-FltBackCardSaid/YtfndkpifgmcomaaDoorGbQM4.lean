/- Part of this claim: QNarrow, QAlive, QSigns, QFWide. -/
import Derived.Laws.Bits64
import Derived.Test.YtfndkpifgmcomaaDoorGbXM1
import Derived.Test.YtfndkpifgmcomaaDoorGbXM4
import Derived.Test.YtfndkpifgmcomaaDoorGbQM3
import Derived.Test.YtfndkpifgmcomaaDoorGbXM2
import Derived.Test.YtfndkpifgmcomaaDoorGbEFlt
section
namespace Go.Proofs.YtfndkpifgmcomaaDoor.Q
open Go Go.RowKit Go.Proofs.YtfndkpifgmcomaaDoor.XD Go.Proofs.YtfndkpifgmcomaaDoorW.PrintWords Go.Proofs.YtfndkpifgmcomaaDoorW.PrintLast Go.Proofs.YtfndkpifgmcomaaDoorW.PrintMore
set_option linter.unusedVariables false
theorem narrow8 (n : Nat) (hn : n < 18446744073709551616) : ∃ v, flt_format_narrow.f 100 8 11 52 (n : Int) = some v := by
  have hs : n / 9223372036854775808 ≤ 1 := by omega
  unfold flt_format_narrow.f
  rw [show flt_wide.f = some (8, 11, 52) from rfl, Option.bind_some, parts8 n hn, Option.bind_some]
  dsimp only
  rw [bias8, Option.bind_some, Option.bind_some, top8, Option.bind_some, show wrap64 ((52 : Int) - 52) = 0 from by decide +kernel]
  have hsh : shr .u64 ((n % 4503599627370496 : Nat) : Int) 0 = ((n % 4503599627370496 : Nat) : Int) := by
    have := shr_nat (n % 4503599627370496) 0 (by omega)
    rw [show ((0 : Nat) : Int) = 0 from rfl, Nat.pow_zero, Nat.div_one] at this
    exact this
  have hj0 := join8 (n / 9223372036854775808) 0 0 hs (by omega) (by omega)
  rw [show ((0 : Nat) : Int) = 0 from rfl] at hj0
  by_cases hx : n / 4503599627370496 % 2048 = 2047
  · rw [if_pos (by omega), Option.bind_some, if_pos (by omega), hsh, show (2047 : Int) = ((2047 : Nat) : Int) from rfl, join8 _ _ _ hs (by omega) (by omega)]
    exact ⟨_, rfl⟩
  · rw [if_neg (by omega)]
    by_cases h0 : n / 4503599627370496 % 2048 = 0
    · rw [if_pos (by omega), flt_format_narrow.j0, if_pos rfl, hj0]
      exact ⟨_, rfl⟩
    · rw [if_neg (by omega), Option.bind_some, w64 (x := ((n / 4503599627370496 % 2048 : Nat) : Int) - 1023) (by omega) (by omega), w64 (x := ((n / 4503599627370496 % 2048 : Nat) : Int) - 1023 + 1023) (by omega) (by omega), flt_format_narrow.j0]
      rw [if_neg (by rw [decide_eq_true_iff]; omega), if_pos (by omega), if_pos (by omega), hsh, show ((n / 4503599627370496 % 2048 : Nat) : Int) - 1023 + 1023 = ((n / 4503599627370496 % 2048 : Nat) : Int) from by omega, join8 _ _ _ hs (by omega) (by omega)]
      exact ⟨_, rfl⟩
theorem widen8 (n : Nat) (hn : n < 18446744073709551616) : flt_format_widen.f 8 11 52 (n : Int) = some (n : Int) := by
  unfold flt_format_widen.f
  rw [show flt_wide.f = some (8, 11, 52) from rfl, Option.bind_some, parts8 n hn, Option.bind_some]
  dsimp only
  rw [if_pos (by decide)]
theorem WidenH (n : Nat) (hn : n < 18446744073709551616) : flt_Widen.f (n : Int) 2 = some (if n < 65536 then ((widH n : Int), 0) else (0, 1)) := by
  have hb := bl_le (x := n) (j := 16) (by omega) hn
  rw [show (2 : Nat) ^ 16 = 65536 from rfl] at hb
  unfold flt_Widen.f fmtL
  rw [widenL, if_pos rfl, len_eq n hn, Option.bind_some, show wrap64 (8 * (2 : Int)) = 16 from by decide +kernel]
  by_cases h : n < 65536
  · rw [if_pos h]
    rw [if_pos (by omega), widenH_eq n h, Option.bind_some]
  · rw [if_neg h]
    rw [if_neg (by omega)]
    rw [widenL, if_neg (by decide), widenL, if_neg (by decide), widenL]
theorem WidenS (n : Nat) (hn : n < 18446744073709551616) : flt_Widen.f (n : Int) 4 = some (if n < 4294967296 then ((widS n : Int), 0) else (0, 1)) := by
  have hb := bl_le (x := n) (j := 32) (by omega) hn
  rw [show (2 : Nat) ^ 32 = 4294967296 from rfl] at hb
  unfold flt_Widen.f fmtL
  rw [widenL, if_neg (by decide)]
  rw [widenL, if_pos rfl, len_eq n hn, Option.bind_some, show wrap64 (8 * (4 : Int)) = 32 from by decide +kernel]
  by_cases h : n < 4294967296
  · rw [if_pos h]
    rw [if_pos (by omega), widenS_eq n h, Option.bind_some]
  · rw [if_neg h]
    rw [if_neg (by omega)]
    rw [widenL, if_neg (by decide), widenL]
theorem Widen8 (n : Nat) (hn : n < 18446744073709551616) : flt_Widen.f (n : Int) 8 = some ((n : Int), 0) := by
  have hb := Lib.bitLen_le n 64 (by omega) hn
  unfold flt_Widen.f fmtL
  rw [widenL, if_neg (by decide), widenL, if_neg (by decide), widenL, if_pos rfl, len_eq n hn, Option.bind_some, show wrap64 (8 * (8 : Int)) = 64 from by decide +kernel, if_pos (by omega), widen8 n hn, Option.bind_some]
theorem Narrow_eq (n : Nat) (hn : n < 18446744073709551616) : flt_Narrow.f (n : Int) = some (if (widH (narH n) : Int) = (n : Int) then ((narH n : Int), (2 : Int)) else if (widS (narS n) : Int) = (n : Int) then ((narS n : Int), (4 : Int)) else ((n : Int), (8 : Int))) := by
  obtain ⟨v, hv⟩ := narrow8 n hn
  unfold flt_Narrow.f fmtL
  rw [narrowL, narrowH_eq n hn 99, Option.bind_some, if_neg (by decide), widenH_eq _ (narH_lt n hn), Option.bind_some]
  by_cases h1 : (widH (narH n) : Int) = (n : Int)
  · rw [if_pos h1, if_pos h1]
  · rw [if_neg h1, if_neg h1, narrowL, narrowS_eq n hn 99, Option.bind_some, if_neg (by decide), widenS_eq _ (narS_lt n hn), Option.bind_some]
    by_cases h2 : (widS (narS n) : Int) = (n : Int)
    · rw [if_pos h2, if_pos h2]
    · rw [if_neg h2, if_neg h2, narrowL, hv, Option.bind_some, if_pos rfl, narrowL]
end Go.Proofs.YtfndkpifgmcomaaDoor.Q
end
section
namespace Go.Proofs.YtfndkpifgmcomaaDoor.Q
open Go Go.RowKit Go.Proofs.YtfndkpifgmcomaaDoor.XD Go.Proofs.YtfndkpifgmcomaaDoorW.PrintWords Go.Proofs.YtfndkpifgmcomaaDoorW.PrintLast Go.Proofs.YtfndkpifgmcomaaDoorW.PrintMore
open Go.Proofs.YtfndkpifgmcomaaDoor.QNum (isNum isNum_iff vN decN decN_len decN_isNum vN_decN decN_lt decN_ge decN_ne decN_head vN_lt)
set_option linter.unusedVariables false
theorem widen_one : flt_Widen.f 15360 2 = some (4607182418800017408, 0) := by decide +kernel
theorem narrow_one : flt_Narrow.f 4607182418800017408 = some (15360, 2) := by decide +kernel
theorem tenth : (mw 4591870180066957722 = 3602879701896397 ∧ pw 4591870180066957722 = -55 ∧ mant 4591870180066957722 ≠ 0) := by decide +kernel
theorem tenV : (3602879701896397 * 5 ^ 55) % 10 ≠ 0 ∧ 10 ^ 54 ≤ 3602879701896397 * 5 ^ 55 ∧ 3602879701896397 * 5 ^ 55 < 10 ^ 55 := by decide +kernel
theorem exact_tenth (k : Nat) (hk : 6000000 < k) : ∃ b : ByteArray, flt_Exact.f k 4591870180066957722 = some (false, b, -55, 0) ∧ b.size = 55 := by
  obtain ⟨h1, h2, h3⟩ := tenth
  obtain ⟨v1, v2, v3⟩ := tenV
  have := exact_num 4591870180066957722 (by omega) (by decide) h3 (3602879701896397 * 5 ^ 55) 0 (by rw [h1, h2, Nat.pow_zero, Nat.mul_one]; rfl) v1 k hk
  rw [h2] at this
  refine ⟨bs (decN (3602879701896397 * 5 ^ 55)), this, ?_⟩
  rw [bs_size]
  have l1 := decN_len _ 55 v3 (by omega)
  have l2 := vN_lt (decN (3602879701896397 * 5 ^ 55)).length (decN (3602879701896397 * 5 ^ 55)) rfl ((isNum_iff _).1 (decN_isNum _)).1
  rw [vN_decN] at l2
  rcases Nat.lt_or_ge (decN (3602879701896397 * 5 ^ 55)).length 55 with h | h
  · exfalso
    have : (10 : Nat) ^ (decN (3602879701896397 * 5 ^ 55)).length ≤ 10 ^ 54 := Nat.pow_le_pow_right (by omega) (by omega)
    omega
  · omega
theorem alive7 (k : Nat) (hk : 6000000 < k) : gantlinelaw07_alive.f k = some true := by
  obtain ⟨b, h1, h2⟩ := exact_tenth k hk
  unfold gantlinelaw07_alive.f
  rw [widen_one, Option.bind_some, narrow_one, Option.bind_some, h1, Option.bind_some]
  simp only [if_true, h2]
  rfl
end Go.Proofs.YtfndkpifgmcomaaDoor.Q
end
section
namespace Go.Proofs.YtfndkpifgmcomaaDoor.Q
open Go Go.RowKit Go.Proofs.YtfndkpifgmcomaaDoor.XD Go.Proofs.YtfndkpifgmcomaaDoorW.PrintWords Go.Proofs.YtfndkpifgmcomaaDoorW.PrintLast Go.Proofs.YtfndkpifgmcomaaDoorW.PrintMore
open Go.Proofs.YtfndkpifgmcomaaDoor.QNum (decN decN_ne)
set_option linter.unusedVariables false
theorem wf_u64 {a : Int} (h : (Lit.int .u64 a).wf = true) : 0 ≤ a ∧ a ≤ 18446744073709551615 := by
  simp only [Lit.wf, Bool.and_eq_true, decide_eq_true_eq] at h
  exact h
end Go.Proofs.YtfndkpifgmcomaaDoor.Q
end
section
namespace Go.Proofs.YtfndkpifgmcomaaDoor.Q
open Go Go.RowKit Go.Proofs.YtfndkpifgmcomaaDoor.XD Go.Proofs.YtfndkpifgmcomaaDoorW.PrintWords Go.Proofs.YtfndkpifgmcomaaDoorW.PrintLast Go.Proofs.YtfndkpifgmcomaaDoorW.PrintMore
set_option linter.unusedVariables false
theorem wf_u16 {a : Int} (h : (Lit.int .u16 a).wf = true) : 0 ≤ a ∧ a ≤ 65535 := by
  simp only [Lit.wf, Bool.and_eq_true, decide_eq_true_eq] at h
  exact h
theorem wf_u32 {a : Int} (h : (Lit.int .u32 a).wf = true) : 0 ≤ a ∧ a ≤ 4294967295 := by
  simp only [Lit.wf, Bool.and_eq_true, decide_eq_true_eq] at h
  exact h
end Go.Proofs.YtfndkpifgmcomaaDoor.Q
namespace Go.Proofs.YtfndkpifgmcomaaDoor.Pure
open Go Go.RowKit Go.Proofs.YtfndkpifgmcomaaDoor.XD Go.Proofs.YtfndkpifgmcomaaDoorW.PrintWords Go.Proofs.YtfndkpifgmcomaaDoorW.PrintLast Q
theorem FltBack : gantlinelaw07_FltBack.Pure := by
  intro a0 a1 a2 hwf0 hwf1 hwf2
  obtain ⟨h0, h1⟩ : 0 ≤ a0 ∧ a0 ≤ 18446744073709551615 := wf_u64 hwf0
  obtain ⟨n, rfl⟩ := Int.eq_ofNat_of_zero_le h0
  have hn : n < 18446744073709551616 := by omega
  obtain ⟨h2, h3⟩ : 0 ≤ a1 ∧ a1 ≤ 65535 := wf_u16 hwf1
  obtain ⟨h, rfl⟩ := Int.eq_ofNat_of_zero_le h2
  obtain ⟨h4, h5⟩ : 0 ≤ a2 ∧ a2 ≤ 4294967295 := wf_u32 hwf2
  obtain ⟨s, rfl⟩ := Int.eq_ofNat_of_zero_le h4
  refine ⟨8000000, ?_⟩
  have hh : h < 65536 := by omega
  have hs : s < 4294967296 := by omega
  have bH := widH_lt h hh
  have bS := widS_lt s hs
  have nH := Narrow_eq (widH h) bH
  have nS := Narrow_eq (widS s) bS
  rw [nar_widH h hh, if_pos rfl] at nH
  rw [nar_widS s hs, if_pos rfl] at nS
  have hback : ∃ k w, flt_Narrow.f (n : Int) = some (k, w) ∧ flt_Widen.f k w = some ((n : Int), 0) := by
    rw [Narrow_eq n hn]
    by_cases c1 : (widH (narH n) : Int) = (n : Int)
    · rw [if_pos c1]
      refine ⟨_, _, rfl, ?_⟩
      rw [WidenH _ (by have := narH_lt n hn; omega), if_pos (narH_lt n hn), c1]
    · rw [if_neg c1]
      by_cases c2 : (widS (narS n) : Int) = (n : Int)
      · rw [if_pos c2]
        refine ⟨_, _, rfl, ?_⟩
        rw [WidenS _ (by have := narS_lt n hn; omega), if_pos (narS_lt n hn), c2]
      · rw [if_neg c2]
        exact ⟨_, _, rfl, Widen8 n hn⟩
  obtain ⟨k, w, e1, e2⟩ := hback
  have hS2 : ∃ a b, flt_Narrow.f (widS s : Int) = some (a, b) ∧ b ≤ 4 := by
    rw [nS]
    split
    · exact ⟨_, _, rfl, by omega⟩
    · exact ⟨_, _, rfl, by omega⟩
  obtain ⟨a, b, e3, e4⟩ := hS2
  unfold gantlinelaw07_FltBack.f
  rw [e1, Option.bind_some, e2, Option.bind_some, wu (x := (h : Int)) (by omega) (by omega), wu (x := (s : Int)) (by omega) (by omega), WidenH h (by omega), if_pos hh, WidenS s (by omega), if_pos hs, Option.bind_some, Option.bind_some, nH, Option.bind_some, e3, Option.bind_some]
  rw [if_pos rfl, if_pos rfl, if_pos rfl, if_pos rfl, if_pos rfl, if_pos rfl, if_pos e4, alive7 8000000 (by omega), Option.bind_some]
end Go.Proofs.YtfndkpifgmcomaaDoor.Pure
end
