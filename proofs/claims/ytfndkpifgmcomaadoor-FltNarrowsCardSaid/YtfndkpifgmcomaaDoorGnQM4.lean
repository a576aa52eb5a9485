/- Part of this claim: QNarrow, QAlive, QSigns, QFWide. -/
import Derived.Laws.Bits64
import Derived.Test.YtfndkpifgmcomaaDoorGnXM1
import Derived.Test.YtfndkpifgmcomaaDoorGnXM4
import Derived.Test.YtfndkpifgmcomaaDoorGnQM3
import Derived.Test.YtfndkpifgmcomaaDoorGnXM2
import Derived.Test.YtfndkpifgmcomaaDoorGnEFlt
section
namespace Go.Proofs.YtfndkpifgmcomaaDoor.Q
open Go Go.RowKit Go.Proofs.YtfndkpifgmcomaaDoor.XD Go.Proofs.YtfndkpifgmcomaaDoorW.PrintWords Go.Proofs.YtfndkpifgmcomaaDoorW.PrintLast Go.Proofs.YtfndkpifgmcomaaDoorW.PrintMore
set_option linter.unusedVariables false
theorem nl1_one (n W a v : Int) (K : Nat) (r : Int × Int) (hw : ∀ k, 100 < k → gantlineref07_widen.f k a W = some v) (hnext : ∀ k, K < k → gantlineref07_Narrow.l0 k n (wrap64 (W * 2)) = some r) (k : Nat) (hk : K + 200 < k) :
    gantlineref07_Narrow.l1 k n W 0 [a] = some (if v = n then (a, W) else r) := by
  obtain ⟨k, rfl⟩ : ∃ q, k = q + 2 := ⟨k - 2, by omega⟩
  rw [gantlineref07_Narrow.l1, if_pos (by simp), if_pos (by omega), show rd [a] 0 = a from rfl, hw (k + 1) (by omega), Option.bind_some]
  by_cases h : v = n
  · rw [if_pos h, if_pos h]
  · rw [if_neg h, if_neg h, show wrap64 ((0 : Int) + 1) = 1 from by decide +kernel, gantlineref07_Narrow.l1, if_neg (by simp), hnext k (by omega)]
theorem nl1_two (n W s a v u : Int) (K : Nat) (r : Int × Int) (hs : ∀ k, 100 < k → gantlineref07_widen.f k s W = some u) (hu : u ≠ n) (hw : ∀ k, 100 < k → gantlineref07_widen.f k a W = some v) (hnext : ∀ k, K < k → gantlineref07_Narrow.l0 k n (wrap64 (W * 2)) = some r) (k : Nat) (hk : K + 200 < k) :
    gantlineref07_Narrow.l1 k n W 0 [s, a] = some (if v = n then (a, W) else r) := by
  obtain ⟨k, rfl⟩ : ∃ q, k = q + 3 := ⟨k - 3, by omega⟩
  rw [gantlineref07_Narrow.l1, if_pos (by simp), if_pos (by omega), show rd [s, a] 0 = s from rfl, hs (k + 2) (by omega), Option.bind_some, if_neg hu, show wrap64 ((0 : Int) + 1) = 1 from by decide +kernel]
  rw [gantlineref07_Narrow.l1, if_pos (by simp), if_pos (by omega), show rd [s, a] 1 = a from rfl, hw (k + 1) (by omega), Option.bind_some]
  by_cases h : v = n
  · rw [if_pos h, if_pos h]
  · rw [if_neg h, if_neg h, show wrap64 ((1 : Int) + 1) = 2 from by decide +kernel, gantlineref07_Narrow.l1, if_neg (by simp), hnext k (by omega)]
theorem rsplit8' (n : Nat) (hn : n < 18446744073709551616) : gantlineref07_split.f (n : Int) 8 = some (((n / 9223372036854775808 : Nat) : Int), ((n / 4503599627370496 % 2048 : Nat) : Int), ((n % 4503599627370496 : Nat) : Int)) :=
  rsplit 8 11 52 n rfl hn (by omega) (by omega) (by omega)
theorem narrow8 (n : Nat) (hn : n < 18446744073709551616) : ∃ v, flt_format_narrow.f 100 8 11 52 (n : Int) = some v := by
  have hs : n / 9223372036854775808 ≤ 1 := by omega
  unfold flt_format_narrow.f
  rw [show flt_wide.f = some (8, 11, 52) from rfl, Option.bind_some, parts8 n hn, Option.bind_some]
  dsimp only
  rw [bias8, Option.bind_some, Option.bind_some, top8, Option.bind_some, show wrap64 ((52 : Int) - 52) = 0 from by decide +kernel]
  have hsh : shr .u64 ((n % 4503599627370496 : Nat) : Int) 0 = ((n % 4503599627370496 : Nat) : Int) := by
    have := shr_nat (n % 4503599627370496) 0 (by omega)
    rw [show ((0 : Nat) : Int) = 0 from rfl, Nat.pow_zero, Nat.div_one] at this
    exact this
  have hj0 := join8 (n / 9223372036854775808) 0 0 hs (by omega) (by omega)
  rw [show ((0 : Nat) : Int) = 0 from rfl] at hj0
  by_cases hx : n / 4503599627370496 % 2048 = 2047
  · rw [if_pos (by omega), Option.bind_some, if_pos (by omega), hsh, show (2047 : Int) = ((2047 : Nat) : Int) from rfl, join8 _ _ _ hs (by omega) (by omega)]
    exact ⟨_, rfl⟩
  · rw [if_neg (by omega)]
    by_cases h0 : n / 4503599627370496 % 2048 = 0
    · rw [if_pos (by omega), flt_format_narrow.j0, if_pos rfl, hj0]
      exact ⟨_, rfl⟩
    · rw [if_neg (by omega), Option.bind_some, w64 (x := ((n / 4503599627370496 % 2048 : Nat) : Int) - 1023) (by omega) (by omega), w64 (x := ((n / 4503599627370496 % 2048 : Nat) : Int) - 1023 + 1023) (by omega) (by omega), flt_format_narrow.j0]
      rw [if_neg (by rw [decide_eq_true_iff]; omega), if_pos (by omega), if_pos (by omega), hsh, show ((n / 4503599627370496 % 2048 : Nat) : Int) - 1023 + 1023 = ((n / 4503599627370496 % 2048 : Nat) : Int) from by omega, join8 _ _ _ hs (by omega) (by omega)]
      exact ⟨_, rfl⟩
theorem orH (s : Nat) (b : Nat) (hs : s ≤ 1) (hb : b < 32768) : Go.bits .or .u64 ((32768 * s : Nat) : Int) (b : Int) = ((32768 * s + b : Nat) : Int) := by
  have h := or_apart s b (5 + 10) hb (by show 32768 * s < _; omega) (by omega)
  exact h
theorem candH (n : Nat) (hn : n < 18446744073709551616) (k : Nat) : gantlineref07_candidates.f (k + 1) (n : Int) 2 = some [(narH n : Int)] ∨
    (n / 4503599627370496 % 2048 ≠ 0 ∧ gantlineref07_candidates.f (k + 1) (n : Int) 2 = some [((32768 * (n / 9223372036854775808) : Nat) : Int), (narH n : Int)]) := by
  have hs : n / 9223372036854775808 ≤ 1 := by omega
  have hfl : n % 4503599627370496 / 4398046511104 < 1024 := by omega
  have hsh : shr .u64 ((n % 4503599627370496 : Nat) : Int) 42 = ((n % 4503599627370496 / 4398046511104 : Nat) : Int) := shr_nat (n % 4503599627370496) 42 (by omega)
  have hss : shl .u64 ((n / 9223372036854775808 : Nat) : Int) (wrap64 ((5 : Int) + 10)) = ((32768 * (n / 9223372036854775808) : Nat) : Int) := by
    have := shl_nat (n / 9223372036854775808) (5 + 10) (by omega) (by show n / 9223372036854775808 * 32768 < _; omega)
    rw [show wrap64 ((5 : Int) + 10) = ((5 + 10 : Nat) : Int) from by decide +kernel, this]
    exact congrArg _ (Nat.mul_comm _ _)
  unfold gantlineref07_candidates.f
  rw [show gantlineref07_parts.f 2 = some (5, 10) from rfl, Option.bind_some, rsplit8' n hn, Option.bind_some]
  dsimp only
  rw [if_pos (by decide +kernel), show wrap64 ((52 : Int) - 10) = 42 from by decide +kernel, hss]
  unfold narH
  by_cases hx : n / 4503599627370496 % 2048 = 2047
  · left
    rw [if_pos hx]
    rw [if_pos (by omega), if_pos (by decide), if_pos (by decide), if_pos (by decide), show shl .u64 (IntKind.u64.wrap (shl .u64 1 5 - 1)) 10 = ((31744 : Nat) : Int) from by decide +kernel, hsh, orH _ _ hs (by omega)]
    have h := or_apart (32 * (n / 9223372036854775808) + 31) (n % 4503599627370496 / 4398046511104) 10 hfl (by show 1024 * _ < _; omega) (by omega)
    have e1 : 32768 * (n / 9223372036854775808) + 31744 = 2 ^ 10 * (32 * (n / 9223372036854775808) + 31) := by show _ = 1024 * _; omega
    rw [e1, h]
  · rw [if_neg (by omega), if_neg hx, Option.bind_some, if_pos (by decide +kernel), show wrap64 (shl .i64 1 (wrap64 ((5 : Int) - 1)) - 1) = 15 from by decide +kernel, show wrap64 (shl .i64 1 5 - 1) = 31 from by decide +kernel]
    rw [w64 (x := ((n / 4503599627370496 % 2048 : Nat) : Int) - 1023) (by omega) (by omega), w64 (x := ((n / 4503599627370496 % 2048 : Nat) : Int) - 1023 + 15) (by omega) (by omega)]
    by_cases h1 : 1039 ≤ n / 4503599627370496 % 2048
    · left
      rw [if_pos (Or.inr h1)]
      rw [if_pos (by omega), if_pos (by decide), decide_eq_false (by omega), gantlineref07_candidates.j0, if_neg (by decide), if_neg (by omega)]
    · by_cases h2 : 1008 < n / 4503599627370496 % 2048
      · right
        refine ⟨by omega, ?_⟩
        have hr : ¬(n / 4503599627370496 % 2048 = 0 ∨ 1039 ≤ n / 4503599627370496 % 2048) := by omega
        rw [if_neg hr, if_pos h2]
        rw [if_pos (by omega), if_pos (by decide), decide_eq_true (by omega), gantlineref07_candidates.j0, if_pos rfl, if_pos (by decide), show wrap64 ((52 : Int) - 10) = 42 from by decide +kernel, if_pos (by decide), if_pos (by simp), Option.bind_some, if_neg (by omega), hsh]
        have hy : ((n / 4503599627370496 % 2048 : Nat) : Int) - 1023 + 15 = ((n / 4503599627370496 % 2048 - 1008 : Nat) : Int) := by omega
        rw [hy]
        have hm : n / 4503599627370496 % 2048 - 1008 < 31 := by omega
        generalize n / 4503599627370496 % 2048 - 1008 = y at hm
        rw [wu (by omega) (by omega)]
        have hsy : shl .u64 (y : Int) 10 = ((1024 * y : Nat) : Int) := by
          have := shl_nat y 10 (by omega) (by show y * 1024 < _; omega)
          rw [show ((10 : Nat) : Int) = 10 from rfl] at this
          rw [this]
          exact congrArg _ (Nat.mul_comm _ _)
        rw [hsy, orH _ _ hs (by omega)]
        have h := or_apart (32 * (n / 9223372036854775808) + y) (n % 4503599627370496 / 4398046511104) 10 hfl (by show 1024 * _ < _; omega) (by omega)
        have e1 : 32768 * (n / 9223372036854775808) + 1024 * y = 2 ^ 10 * (32 * (n / 9223372036854775808) + y) := by show _ = 1024 * _; omega
        rw [e1, h, ← e1]
        rfl
      · by_cases h0 : n / 4503599627370496 % 2048 = 0
        · left
          rw [if_pos (Or.inl h0)]
          rw [if_neg (by omega), gantlineref07_candidates.j0, if_neg (by decide), if_pos (by omega), w64 (x := 1 - (((n / 4503599627370496 % 2048 : Nat) : Int) - 1023 + 15)) (by omega) (by omega), w64 (x := 1 - (((n / 4503599627370496 % 2048 : Nat) : Int) - 1023 + 15) + 52) (by omega) (by omega), w64 (by omega) (by omega), if_neg (by omega)]
        · have hr : ¬(n / 4503599627370496 % 2048 = 0 ∨ 1039 ≤ n / 4503599627370496 % 2048) := by omega
          rw [if_neg hr, if_neg h2]
          rw [if_neg (by omega), gantlineref07_candidates.j0, if_neg (by decide), if_pos (by omega), w64 (x := 1 - (((n / 4503599627370496 % 2048 : Nat) : Int) - 1023 + 15)) (by omega) (by omega), w64 (x := 1 - (((n / 4503599627370496 % 2048 : Nat) : Int) - 1023 + 15) + 52) (by omega) (by omega), w64 (by omega) (by omega)]
          by_cases h3 : 1051 - n / 4503599627370496 % 2048 < 64
          · right
            refine ⟨h0, ?_⟩
            have hlow := lowH (f := n % 4503599627370496) (e := 1051 - n / 4503599627370496 % 2048) (by omega) (by omega)
            rw [if_pos (by omega), if_pos (by omega), if_pos (by simp), show min (1051 - n / 4503599627370496 % 2048) 63 = 1051 - n / 4503599627370496 % 2048 from by omega]
            rw [show 1 - (((n / 4503599627370496 % 2048 : Nat) : Int) - 1023 + 15) + 52 - 10 = ((1051 - n / 4503599627370496 % 2048 : Nat) : Int) from by omega, wu (x := 4503599627370496 + ((n % 4503599627370496 : Nat) : Int)) (by omega) (by omega), show (4503599627370496 : Int) + ((n % 4503599627370496 : Nat) : Int) = ((4503599627370496 + n % 4503599627370496 : Nat) : Int) from by omega]
            rw [shr_nat _ (1051 - n / 4503599627370496 % 2048) (by omega), orH _ _ hs (by omega)]
            rfl
          · left
            have hz : (4503599627370496 + n % 4503599627370496) / 2 ^ min (1051 - n / 4503599627370496 % 2048) 63 = 0 := by
              rw [show min (1051 - n / 4503599627370496 % 2048) 63 = 63 from by omega, show (2 : Nat) ^ 63 = 9223372036854775808 from rfl]
              omega
            rw [if_neg (by omega), hz, Nat.add_zero]
theorem stageH (n : Nat) (hn : n < 18446744073709551616) (K : Nat) (r : Int × Int) (hnext : ∀ k, K < k → gantlineref07_Narrow.l0 k (n : Int) 4 = some r) (k : Nat) (hk : K + 300 < k) :
    gantlineref07_Narrow.l0 k (n : Int) 2 = some (if (widH (narH n) : Int) = (n : Int) then ((narH n : Int), (2 : Int)) else r) := by
  obtain ⟨k, rfl⟩ : ∃ q, k = q + 2 := ⟨k - 2, by omega⟩
  have hs : n / 9223372036854775808 ≤ 1 := by omega
  have hnext' : ∀ k, K < k → gantlineref07_Narrow.l0 k (n : Int) (wrap64 ((2 : Int) * 2)) = some r := by
    rw [show wrap64 ((2 : Int) * 2) = 4 from by decide +kernel]
    exact hnext
  have hw := fun k hk => rwidenH_eq (narH n) (narH_lt n hn) k hk
  rw [gantlineref07_Narrow.l0, if_pos (by decide)]
  rcases candH n hn k with h | ⟨h0, h⟩
  · rw [h, Option.bind_some]
    exact nl1_one _ _ _ _ K r hw hnext' _ (by omega)
  · rw [h, Option.bind_some]
    have h1 := fun k hk => rwidenH_eq (32768 * (n / 9223372036854775808)) (by omega) k hk
    rw [signH _ hs] at h1
    exact nl1_two _ _ _ _ _ _ K r h1 (by omega) hw hnext' _ (by omega)
theorem orS (s : Nat) (b : Nat) (hs : s ≤ 1) (hb : b < 2147483648) : Go.bits .or .u64 ((2147483648 * s : Nat) : Int) (b : Int) = ((2147483648 * s + b : Nat) : Int) := by
  have h := or_apart s b (8 + 23) hb (by show 2147483648 * s < _; omega) (by omega)
  exact h
theorem candS (n : Nat) (hn : n < 18446744073709551616) (k : Nat) : gantlineref07_candidates.f (k + 1) (n : Int) 4 = some [(narS n : Int)] ∨
    (n / 4503599627370496 % 2048 ≠ 0 ∧ gantlineref07_candidates.f (k + 1) (n : Int) 4 = some [((2147483648 * (n / 9223372036854775808) : Nat) : Int), (narS n : Int)]) := by
  have hs : n / 9223372036854775808 ≤ 1 := by omega
  have hfl : n % 4503599627370496 / 536870912 < 8388608 := by omega
  have hsh : shr .u64 ((n % 4503599627370496 : Nat) : Int) 29 = ((n % 4503599627370496 / 536870912 : Nat) : Int) := shr_nat (n % 4503599627370496) 29 (by omega)
  have hss : shl .u64 ((n / 9223372036854775808 : Nat) : Int) (wrap64 ((8 : Int) + 23)) = ((2147483648 * (n / 9223372036854775808) : Nat) : Int) := by
    have := shl_nat (n / 9223372036854775808) (8 + 23) (by omega) (by show n / 9223372036854775808 * 2147483648 < _; omega)
    rw [show wrap64 ((8 : Int) + 23) = ((8 + 23 : Nat) : Int) from by decide +kernel, this]
    exact congrArg _ (Nat.mul_comm _ _)
  unfold gantlineref07_candidates.f
  rw [show gantlineref07_parts.f 4 = some (8, 23) from rfl, Option.bind_some, rsplit8' n hn, Option.bind_some]
  dsimp only
  rw [if_pos (by decide +kernel), show wrap64 ((52 : Int) - 23) = 29 from by decide +kernel, hss]
  unfold narS
  by_cases hx : n / 4503599627370496 % 2048 = 2047
  · left
    rw [if_pos hx]
    rw [if_pos (by omega), if_pos (by decide), if_pos (by decide), if_pos (by decide), show shl .u64 (IntKind.u64.wrap (shl .u64 1 8 - 1)) 23 = ((2139095040 : Nat) : Int) from by decide +kernel, hsh, orS _ _ hs (by omega)]
    have h := or_apart (256 * (n / 9223372036854775808) + 255) (n % 4503599627370496 / 536870912) 23 hfl (by show 8388608 * _ < _; omega) (by omega)
    have e1 : 2147483648 * (n / 9223372036854775808) + 2139095040 = 2 ^ 23 * (256 * (n / 9223372036854775808) + 255) := by show _ = 8388608 * _; omega
    rw [e1, h]
  · rw [if_neg (by omega), if_neg hx, Option.bind_some, if_pos (by decide +kernel), show wrap64 (shl .i64 1 (wrap64 ((8 : Int) - 1)) - 1) = 127 from by decide +kernel, show wrap64 (shl .i64 1 8 - 1) = 255 from by decide +kernel]
    rw [w64 (x := ((n / 4503599627370496 % 2048 : Nat) : Int) - 1023) (by omega) (by omega), w64 (x := ((n / 4503599627370496 % 2048 : Nat) : Int) - 1023 + 127) (by omega) (by omega)]
    by_cases h1 : 1151 ≤ n / 4503599627370496 % 2048
    · left
      rw [if_pos (Or.inr h1)]
      rw [if_pos (by omega), if_pos (by decide), decide_eq_false (by omega), gantlineref07_candidates.j0, if_neg (by decide), if_neg (by omega)]
    · by_cases h2 : 896 < n / 4503599627370496 % 2048
      · right
        refine ⟨by omega, ?_⟩
        have hr : ¬(n / 4503599627370496 % 2048 = 0 ∨ 1151 ≤ n / 4503599627370496 % 2048) := by omega
        rw [if_neg hr, if_pos h2]
        rw [if_pos (by omega), if_pos (by decide), decide_eq_true (by omega), gantlineref07_candidates.j0, if_pos rfl, if_pos (by decide), show wrap64 ((52 : Int) - 23) = 29 from by decide +kernel, if_pos (by decide), if_pos (by simp), Option.bind_some, if_neg (by omega), hsh]
        have hy : ((n / 4503599627370496 % 2048 : Nat) : Int) - 1023 + 127 = ((n / 4503599627370496 % 2048 - 896 : Nat) : Int) := by omega
        rw [hy]
        have hm : n / 4503599627370496 % 2048 - 896 < 255 := by omega
        generalize n / 4503599627370496 % 2048 - 896 = y at hm
        rw [wu (by omega) (by omega)]
        have hsy : shl .u64 (y : Int) 23 = ((8388608 * y : Nat) : Int) := by
          have := shl_nat y 23 (by omega) (by show y * 8388608 < _; omega)
          rw [show ((23 : Nat) : Int) = 23 from rfl] at this
          rw [this]
          exact congrArg _ (Nat.mul_comm _ _)
        rw [hsy, orS _ _ hs (by omega)]
        have h := or_apart (256 * (n / 9223372036854775808) + y) (n % 4503599627370496 / 536870912) 23 hfl (by show 8388608 * _ < _; omega) (by omega)
        have e1 : 2147483648 * (n / 9223372036854775808) + 8388608 * y = 2 ^ 23 * (256 * (n / 9223372036854775808) + y) := by show _ = 8388608 * _; omega
        rw [e1, h, ← e1]
        rfl
      · by_cases h0 : n / 4503599627370496 % 2048 = 0
        · left
          rw [if_pos (Or.inl h0)]
          rw [if_neg (by omega), gantlineref07_candidates.j0, if_neg (by decide), if_pos (by omega), w64 (x := 1 - (((n / 4503599627370496 % 2048 : Nat) : Int) - 1023 + 127)) (by omega) (by omega), w64 (x := 1 - (((n / 4503599627370496 % 2048 : Nat) : Int) - 1023 + 127) + 52) (by omega) (by omega), w64 (by omega) (by omega), if_neg (by omega)]
        · have hr : ¬(n / 4503599627370496 % 2048 = 0 ∨ 1151 ≤ n / 4503599627370496 % 2048) := by omega
          rw [if_neg hr, if_neg h2]
          rw [if_neg (by omega), gantlineref07_candidates.j0, if_neg (by decide), if_pos (by omega), w64 (x := 1 - (((n / 4503599627370496 % 2048 : Nat) : Int) - 1023 + 127)) (by omega) (by omega), w64 (x := 1 - (((n / 4503599627370496 % 2048 : Nat) : Int) - 1023 + 127) + 52) (by omega) (by omega), w64 (by omega) (by omega)]
          by_cases h3 : 926 - n / 4503599627370496 % 2048 < 64
          · right
            refine ⟨h0, ?_⟩
            have hlow := lowS (f := n % 4503599627370496) (e := 926 - n / 4503599627370496 % 2048) (by omega) (by omega)
            rw [if_pos (by omega), if_pos (by omega), if_pos (by simp), show min (926 - n / 4503599627370496 % 2048) 63 = 926 - n / 4503599627370496 % 2048 from by omega]
            rw [show 1 - (((n / 4503599627370496 % 2048 : Nat) : Int) - 1023 + 127) + 52 - 23 = ((926 - n / 4503599627370496 % 2048 : Nat) : Int) from by omega, wu (x := 4503599627370496 + ((n % 4503599627370496 : Nat) : Int)) (by omega) (by omega), show (4503599627370496 : Int) + ((n % 4503599627370496 : Nat) : Int) = ((4503599627370496 + n % 4503599627370496 : Nat) : Int) from by omega]
            rw [shr_nat _ (926 - n / 4503599627370496 % 2048) (by omega), orS _ _ hs (by omega)]
            rfl
          · left
            have hz : (4503599627370496 + n % 4503599627370496) / 2 ^ min (926 - n / 4503599627370496 % 2048) 63 = 0 := by
              rw [show min (926 - n / 4503599627370496 % 2048) 63 = 63 from by omega, show (2 : Nat) ^ 63 = 9223372036854775808 from rfl]
              omega
            rw [if_neg (by omega), hz, Nat.add_zero]
theorem stageS (n : Nat) (hn : n < 18446744073709551616) (K : Nat) (r : Int × Int) (hnext : ∀ k, K < k → gantlineref07_Narrow.l0 k (n : Int) 8 = some r) (k : Nat) (hk : K + 300 < k) :
    gantlineref07_Narrow.l0 k (n : Int) 4 = some (if (widS (narS n) : Int) = (n : Int) then ((narS n : Int), (4 : Int)) else r) := by
  obtain ⟨k, rfl⟩ : ∃ q, k = q + 2 := ⟨k - 2, by omega⟩
  have hs : n / 9223372036854775808 ≤ 1 := by omega
  have hnext' : ∀ k, K < k → gantlineref07_Narrow.l0 k (n : Int) (wrap64 ((4 : Int) * 2)) = some r := by
    rw [show wrap64 ((4 : Int) * 2) = 8 from by decide +kernel]
    exact hnext
  have hw := fun k hk => rwidenS_eq (narS n) (narS_lt n hn) k hk
  rw [gantlineref07_Narrow.l0, if_pos (by decide)]
  rcases candS n hn k with h | ⟨h0, h⟩
  · rw [h, Option.bind_some]
    exact nl1_one _ _ _ _ K r hw hnext' _ (by omega)
  · rw [h, Option.bind_some]
    have h1 := fun k hk => rwidenS_eq (2147483648 * (n / 9223372036854775808)) (by omega) k hk
    rw [signS _ hs] at h1
    exact nl1_two _ _ _ _ _ _ K r h1 (by omega) hw hnext' _ (by omega)
theorem Narrow_eq (n : Nat) (hn : n < 18446744073709551616) : flt_Narrow.f (n : Int) = some (if (widH (narH n) : Int) = (n : Int) then ((narH n : Int), (2 : Int)) else if (widS (narS n) : Int) = (n : Int) then ((narS n : Int), (4 : Int)) else ((n : Int), (8 : Int))) := by
  obtain ⟨v, hv⟩ := narrow8 n hn
  unfold flt_Narrow.f fmtL
  rw [narrowL, narrowH_eq n hn 99, Option.bind_some, if_neg (by decide), widenH_eq _ (narH_lt n hn), Option.bind_some]
  by_cases h1 : (widH (narH n) : Int) = (n : Int)
  · rw [if_pos h1, if_pos h1]
  · rw [if_neg h1, if_neg h1, narrowL, narrowS_eq n hn 99, Option.bind_some, if_neg (by decide), widenS_eq _ (narS_lt n hn), Option.bind_some]
    by_cases h2 : (widS (narS n) : Int) = (n : Int)
    · rw [if_pos h2, if_pos h2]
    · rw [if_neg h2, if_neg h2, narrowL, hv, Option.bind_some, if_pos rfl, narrowL]
theorem rNarrow_eq (n : Nat) (hn : n < 18446744073709551616) (k : Nat) (hk : 1000 < k) : gantlineref07_Narrow.f k (n : Int) = some (if (widH (narH n) : Int) = (n : Int) then ((narH n : Int), (2 : Int)) else if (widS (narS n) : Int) = (n : Int) then ((narS n : Int), (4 : Int)) else ((n : Int), (8 : Int))) := by
  have h8 : ∀ k, 0 < k → gantlineref07_Narrow.l0 k (n : Int) 8 = some ((n : Int), 8) := by
    intro k hk
    obtain ⟨k, rfl⟩ : ∃ q, k = q + 1 := ⟨k - 1, by omega⟩
    rw [gantlineref07_Narrow.l0, if_neg (by decide)]
  exact stageH n hn 301 _ (fun k hk => stageS n hn 0 _ h8 k (by omega)) k (by omega)
end Go.Proofs.YtfndkpifgmcomaaDoor.Q
end
section
namespace Go.Proofs.YtfndkpifgmcomaaDoor.Q
open Go Go.RowKit Go.Proofs.YtfndkpifgmcomaaDoor.XD Go.Proofs.YtfndkpifgmcomaaDoorW.PrintWords Go.Proofs.YtfndkpifgmcomaaDoorW.PrintLast Go.Proofs.YtfndkpifgmcomaaDoorW.PrintMore
open Go.Proofs.YtfndkpifgmcomaaDoor.QNum (isNum isNum_iff vN decN decN_len decN_isNum vN_decN decN_lt decN_ge decN_ne decN_head vN_lt)
set_option linter.unusedVariables false
theorem widen_one : flt_Widen.f 15360 2 = some (4607182418800017408, 0) := by decide +kernel
theorem narrow_one : flt_Narrow.f 4607182418800017408 = some (15360, 2) := by decide +kernel
theorem tenth : (mw 4591870180066957722 = 3602879701896397 ∧ pw 4591870180066957722 = -55 ∧ mant 4591870180066957722 ≠ 0) := by decide +kernel
theorem tenV : (3602879701896397 * 5 ^ 55) % 10 ≠ 0 ∧ 10 ^ 54 ≤ 3602879701896397 * 5 ^ 55 ∧ 3602879701896397 * 5 ^ 55 < 10 ^ 55 := by decide +kernel
theorem exact_tenth (k : Nat) (hk : 6000000 < k) : ∃ b : ByteArray, flt_Exact.f k 4591870180066957722 = some (false, b, -55, 0) ∧ b.size = 55 := by
  obtain ⟨h1, h2, h3⟩ := tenth
  obtain ⟨v1, v2, v3⟩ := tenV
  have := exact_num 4591870180066957722 (by omega) (by decide) h3 (3602879701896397 * 5 ^ 55) 0 (by rw [h1, h2, Nat.pow_zero, Nat.mul_one]; rfl) v1 k hk
  rw [h2] at this
  refine ⟨bs (decN (3602879701896397 * 5 ^ 55)), this, ?_⟩
  rw [bs_size]
  have l1 := decN_len _ 55 v3 (by omega)
  have l2 := vN_lt (decN (3602879701896397 * 5 ^ 55)).length (decN (3602879701896397 * 5 ^ 55)) rfl ((isNum_iff _).1 (decN_isNum _)).1
  rw [vN_decN] at l2
  rcases Nat.lt_or_ge (decN (3602879701896397 * 5 ^ 55)).length 55 with h | h
  · exfalso
    have : (10 : Nat) ^ (decN (3602879701896397 * 5 ^ 55)).length ≤ 10 ^ 54 := Nat.pow_le_pow_right (by omega) (by omega)
    omega
  · omega
theorem alive7 (k : Nat) (hk : 6000000 < k) : gantlinelaw07_alive.f k = some true := by
  obtain ⟨b, h1, h2⟩ := exact_tenth k hk
  unfold gantlinelaw07_alive.f
  rw [widen_one, Option.bind_some, narrow_one, Option.bind_some, h1, Option.bind_some]
  simp only [if_true, h2]
  rfl
end Go.Proofs.YtfndkpifgmcomaaDoor.Q
end
section
namespace Go.Proofs.YtfndkpifgmcomaaDoor.Q
open Go Go.RowKit Go.Proofs.YtfndkpifgmcomaaDoor.XD Go.Proofs.YtfndkpifgmcomaaDoorW.PrintWords Go.Proofs.YtfndkpifgmcomaaDoorW.PrintLast Go.Proofs.YtfndkpifgmcomaaDoorW.PrintMore
open Go.Proofs.YtfndkpifgmcomaaDoor.QNum (decN decN_ne)
set_option linter.unusedVariables false
theorem wf_u64 {a : Int} (h : (Lit.int .u64 a).wf = true) : 0 ≤ a ∧ a ≤ 18446744073709551615 := by
  simp only [Lit.wf, Bool.and_eq_true, decide_eq_true_eq] at h
  exact h
end Go.Proofs.YtfndkpifgmcomaaDoor.Q
end
section
namespace Go.Proofs.YtfndkpifgmcomaaDoor.Q
open Go Go.RowKit Go.Proofs.YtfndkpifgmcomaaDoor.XD Go.Proofs.YtfndkpifgmcomaaDoorW.PrintWords Go.Proofs.YtfndkpifgmcomaaDoorW.PrintLast Go.Proofs.YtfndkpifgmcomaaDoorW.PrintMore
set_option linter.unusedVariables false
end Go.Proofs.YtfndkpifgmcomaaDoor.Q
namespace Go.Proofs.YtfndkpifgmcomaaDoor.Pure
open Go Go.RowKit Go.Proofs.YtfndkpifgmcomaaDoor.XD Go.Proofs.YtfndkpifgmcomaaDoorW.PrintWords Go.Proofs.YtfndkpifgmcomaaDoorW.PrintLast Q
theorem FltNarrows : gantlinelaw07_FltNarrows.Pure := by
  intro a0 hwf0
  obtain ⟨h0, h1⟩ : 0 ≤ a0 ∧ a0 ≤ 18446744073709551615 := wf_u64 hwf0
  obtain ⟨n, rfl⟩ := Int.eq_ofNat_of_zero_le h0
  have hn : n < 18446744073709551616 := by omega
  refine ⟨8000000, ?_⟩
  unfold gantlinelaw07_FltNarrows.f
  rw [rNarrow_eq n hn _ (by omega), Narrow_eq n hn, Option.bind_some, Option.bind_some, if_pos rfl, if_pos rfl, alive7 8000000 (by omega), Option.bind_some]
end Go.Proofs.YtfndkpifgmcomaaDoor.Pure
end
