/- Part of this claim: QAlive, QSigns, QFExact. -/
import Derived.Laws.Bits64
import Derived.Test.YtfndkpifgmcomaaDoorGeXM5
import Derived.Test.YtfndkpifgmcomaaDoorGeXM1
import Derived.Test.YtfndkpifgmcomaaDoorGeXM3
import Derived.Test.YtfndkpifgmcomaaDoorGeQM3
import Derived.Test.YtfndkpifgmcomaaDoorGeXM2
import Derived.Test.YtfndkpifgmcomaaDoorGeQM2
section
namespace Go.Proofs.YtfndkpifgmcomaaDoor.Q
open Go Go.RowKit Go.Proofs.YtfndkpifgmcomaaDoor.XD Go.Proofs.YtfndkpifgmcomaaDoorW.PrintWords Go.Proofs.YtfndkpifgmcomaaDoorW.PrintLast Go.Proofs.YtfndkpifgmcomaaDoorW.PrintMore
open Go.Proofs.YtfndkpifgmcomaaDoor.QNum (isNum isNum_iff vN decN decN_len decN_isNum vN_decN decN_lt decN_ge decN_ne decN_head vN_lt)
set_option linter.unusedVariables false
theorem widen_one : flt_Widen.f 15360 2 = some (4607182418800017408, 0) := by decide +kernel
theorem narrow_one : flt_Narrow.f 4607182418800017408 = some (15360, 2) := by decide +kernel
theorem tenth : (mw 4591870180066957722 = 3602879701896397 ∧ pw 4591870180066957722 = -55 ∧ mant 4591870180066957722 ≠ 0) := by decide +kernel
theorem tenV : (3602879701896397 * 5 ^ 55) % 10 ≠ 0 ∧ 10 ^ 54 ≤ 3602879701896397 * 5 ^ 55 ∧ 3602879701896397 * 5 ^ 55 < 10 ^ 55 := by decide +kernel
theorem exact_tenth (k : Nat) (hk : 6000000 < k) : ∃ b : ByteArray, flt_Exact.f k 4591870180066957722 = some (false, b, -55, 0) ∧ b.size = 55 := by
  obtain ⟨h1, h2, h3⟩ := tenth
  obtain ⟨v1, v2, v3⟩ := tenV
  have := exact_num 4591870180066957722 (by omega) (by decide) h3 (3602879701896397 * 5 ^ 55) 0 (by rw [h1, h2, Nat.pow_zero, Nat.mul_one]; rfl) v1 k hk
  rw [h2] at this
  refine ⟨bs (decN (3602879701896397 * 5 ^ 55)), this, ?_⟩
  rw [bs_size]
  have l1 := decN_len _ 55 v3 (by omega)
  have l2 := vN_lt (decN (3602879701896397 * 5 ^ 55)).length (decN (3602879701896397 * 5 ^ 55)) rfl ((isNum_iff _).1 (decN_isNum _)).1
  rw [vN_decN] at l2
  rcases Nat.lt_or_ge (decN (3602879701896397 * 5 ^ 55)).length 55 with h | h
  · exfalso
    have : (10 : Nat) ^ (decN (3602879701896397 * 5 ^ 55)).length ≤ 10 ^ 54 := Nat.pow_le_pow_right (by omega) (by omega)
    omega
  · omega
theorem alive7 (k : Nat) (hk : 6000000 < k) : gantlinelaw07_alive.f k = some true := by
  obtain ⟨b, h1, h2⟩ := exact_tenth k hk
  unfold gantlinelaw07_alive.f
  rw [widen_one, Option.bind_some, narrow_one, Option.bind_some, h1, Option.bind_some]
  simp only [if_true, h2]
  rfl
end Go.Proofs.YtfndkpifgmcomaaDoor.Q
end
section
namespace Go.Proofs.YtfndkpifgmcomaaDoor.Q
open Go Go.RowKit Go.Proofs.YtfndkpifgmcomaaDoor.XD Go.Proofs.YtfndkpifgmcomaaDoorW.PrintWords Go.Proofs.YtfndkpifgmcomaaDoorW.PrintLast Go.Proofs.YtfndkpifgmcomaaDoorW.PrintMore
open Go.Proofs.YtfndkpifgmcomaaDoor.QNum (decN decN_ne)
set_option linter.unusedVariables false
theorem wf_u64 {a : Int} (h : (Lit.int .u64 a).wf = true) : 0 ≤ a ∧ a ≤ 18446744073709551615 := by
  simp only [Lit.wf, Bool.and_eq_true, decide_eq_true_eq] at h
  exact h
theorem neg_eq (n : Nat) : flt_Negative.f (n : Int) = some (decide (n / 9223372036854775808 ≠ 0)) := by
  unfold flt_Negative.f
  congr 1
  rw [Bool.eq_iff_iff, bne_iff_ne, decide_eq_true_iff]
  omega
end Go.Proofs.YtfndkpifgmcomaaDoor.Q
end
section
namespace Go.Proofs.YtfndkpifgmcomaaDoor.Q
open Go Go.RowKit Go.Proofs.YtfndkpifgmcomaaDoor.XD Go.Proofs.YtfndkpifgmcomaaDoorW.PrintWords Go.Proofs.YtfndkpifgmcomaaDoorW.PrintLast Go.Proofs.YtfndkpifgmcomaaDoorW.PrintMore
open Go.Proofs.YtfndkpifgmcomaaDoor.QNum (isNum isNum_iff vN decN decN_len decN_isNum vN_decN decN_lt decN_ge decN_ne decN_head)
set_option linter.unusedVariables false
theorem rvalue8 (n : Nat) : gantlineref07_value.f ((n / 4503599627370496 % 2048 : Nat) : Int) ((n % 4503599627370496 : Nat) : Int) 8 = some ((mant n : Int), expo n) := by
  have hh : wrap64 (shl .i64 1 (wrap64 ((11 : Int) - 1)) - 1) = 1023 := by decide +kernel
  have hs : shl .u64 1 52 = 4503599627370496 := by decide +kernel
  unfold gantlineref07_value.f
  rw [show gantlineref07_parts.f 8 = some (11, 52) from rfl, Option.bind_some]
  dsimp only
  rw [if_pos (by decide +kernel), hh, hs]
  unfold mant expo
  by_cases h0 : n / 4503599627370496 % 2048 = 0
  · rw [if_pos (by omega), if_pos h0, if_pos h0, show wrap64 (wrap64 ((1 : Int) - 1023) - 52) = 1 - 1075 from by decide +kernel]
  · rw [if_neg (by omega), if_neg h0, if_neg h0, if_pos (by decide)]
    rw [wu (by omega) (by omega), w64 (x := ((n / 4503599627370496 % 2048 : Nat) : Int) - 1023) (by omega) (by omega), w64 (by omega) (by omega)]
    congr 2
    omega
theorem rexact_l0 (s m : Nat) (p : Int) (hm0 : m ≠ 0) (k : Nat) : ∀ t : Nat, (m % 2 = 1 ∨ p = 0 ∨ (t = 0 ∧ 0 ≤ p)) → (t = 0 ∨ p ≤ 0) → -1100 ≤ p - t → p ≤ 1000 → m * 2 ^ t < 18446744073709551616 →
    gantlineref07_Exact.l0 (k + t + 1) s ((m * 2 ^ t : Nat) : Int) (p - t) 0 = gantlineref07_Exact.j1 k s m p 0 := by
  intro t
  induction t with
  | zero =>
    intro h1 h2 h3 h4 h5
    rw [Nat.pow_zero, Nat.mul_one, gantlineref07_Exact.l0, if_pos (by omega), tmod_ (by omega)]
    rw [show p - ((0 : Nat) : Int) = p from by omega]
    by_cases h : (m : Int) % 2 = 0
    · rw [if_pos h, if_neg (by omega)]
    · rw [if_neg h]
  | succ t ih =>
    intro h1 h2 h3 h4 h5
    have e : m * 2 ^ (t + 1) = m * 2 ^ t * 2 := by rw [Nat.pow_succ, Nat.mul_assoc]
    have hpos : 0 < m * 2 ^ t := Nat.mul_pos (by omega) (Nat.pow_pos (by omega))
    rw [e] at h5
    rw [show k + (t + 1) + 1 = (k + t + 1) + 1 from by omega, gantlineref07_Exact.l0, e]
    generalize m * 2 ^ t = M at hpos h5 ih
    rw [if_pos (by omega), tmod_ (by omega), if_pos (by omega), if_pos (by omega), tdiv_ (by omega), show ((M * 2 : Nat) : Int) / 2 = (M : Int) from by omega, wu (by omega) (by omega), w64 (by omega) (by omega), show p - ((t + 1 : Nat) : Int) + 1 = p - (t : Int) from by omega]
    exact ih (by omega) (by omega) (by omega) h4 (by omega)
theorem rexact_j1 (s m b q : Nat) (p e : Int) (hm0 : m ≠ 0) (hm : m < 9007199254740992) (hb : b ≤ 5) (hb1 : 1 ≤ b) (hq : q ≤ 1074) (he0 : -1100 ≤ e) (he1 : e ≤ 0)
    (hp : (0 ≤ p ∧ p = q ∧ b = 2 ∧ e = 0) ∨ (p < 0 ∧ -p = q ∧ b = 5 ∧ e = p))
    (mm z : Nat) (hV : m * b ^ q = mm * 10 ^ z) (hmm : mm % 10 ≠ 0) (k : Nat) (hk : 5000000 < k) :
    gantlineref07_Exact.j1 k s m p 0 = some ((s : Int) == 1, bs (decN mm), e + z, 0) := by
  obtain ⟨k, rfl⟩ : ∃ r, k = r + 1 := ⟨k - 1, by omega⟩
  have hVlt := V_lt hm hb hq
  have hz := z_le hVlt hV hmm
  have hm8 : m < 10 ^ 800 := lt16 (by omega)
  have hp8 : b ^ q < 10 ^ 800 := lt760 (Nat.lt_of_le_of_lt (small_pow hb hq) five)
  have okm := okS_dec hm8
  have okp := okS_dec hp8
  have sm := decN_len m 800 hm8 (by omega)
  have sp := decN_len (b ^ q) 800 hp8 (by omega)
  have hmul := ref_Mul_eq (bs (decN m)) (bs (decN (b ^ q))) (by rw [bs_size]; omega) (by rw [bs_size]; omega) k (by omega)
  rw [okm, okp] at hmul
  have e1 : vA (bs (decN m)) = m := vA_dec m
  have e2 : vA (bs (decN (b ^ q))) = b ^ q := vA_dec _
  rw [e1, e2, show (if (true && true) = true then shortN (m * b ^ q) else ((⟨#[]⟩ : ByteArray), (1 : Int))) = shortN (m * b ^ q) from rfl, short_small hVlt (by omega) (by omega)] at hmul
  have hpow := rpower_eq b q hb hb1 hq k (by omega)
  rw [show (⟨(decN (b ^ q)).toArray⟩ : ByteArray) = bs (decN (b ^ q)) from rfl] at hpow
  rw [show (⟨(decN (m * b ^ q)).toArray⟩ : ByteArray) = bs (decN (m * b ^ q)) from rfl, hV] at hmul
  have hmk := ref_Make_eq ((s : Int) == 1) hmm (hV ▸ hVlt) hz e he0 (by omega) k (by omega)
  rw [gantlineref07_Exact.j1, rword_eq m (by omega) k (by omega), Option.bind_some, show (⟨(decN m).toArray⟩ : ByteArray) = bs (decN m) from rfl]
  rcases hp with ⟨hp0, rfl, rfl, rfl⟩ | ⟨hp0, hq2, rfl, rfl⟩
  · rw [if_pos hp0]
    have hpow : gantlineref05_Power.f k 2 (q : Int) = some (bs (decN (2 ^ q)), 0) := hpow
    rw [hpow, Option.bind_some, hmul, Option.bind_some, hmk, Option.bind_some]
  · rw [if_neg (by omega), if_pos (by omega), w64 (by omega) (by omega), hq2]
    have hpow : gantlineref05_Power.f k 5 (q : Int) = some (bs (decN (5 ^ q)), 0) := hpow
    rw [hpow, Option.bind_some, hmul, Option.bind_some, hmk, Option.bind_some]
theorem rfinite_eq (n : Nat) (hn : n < 18446744073709551616) : gantlineref07_Finite.f n = some (decide (n / 4503599627370496 % 2048 ≠ 2047)) := by
  unfold gantlineref07_Finite.f
  have h := and_ones (n / 4503599627370496) 11 (by omega) (by omega)
  rw [show ((2 ^ 11 - 1 : Nat) : Int) = 2047 from rfl, show (2 : Nat) ^ 11 = 2048 from rfl] at h
  rw [show (n : Int) / 4503599627370496 = ((n / 4503599627370496 : Nat) : Int) from by omega, h]
  congr 1
  rw [Bool.eq_iff_iff, bne_iff_ne, decide_eq_true_iff]
  omega
theorem rneg_eq (n : Nat) (hn : n < 18446744073709551616) : gantlineref07_Negative.f (n : Int) = some (decide (n / 9223372036854775808 ≠ 0)) := by
  unfold gantlineref07_Negative.f
  congr 1
  rw [Bool.eq_iff_iff, beq_iff_eq, decide_eq_true_iff]
  omega
theorem rsplit8 (n : Nat) (hn : n < 18446744073709551616) : gantlineref07_split.f (n : Int) 8 = some (((n / 9223372036854775808 : Nat) : Int), ((n / 4503599627370496 % 2048 : Nat) : Int), ((n % 4503599627370496 : Nat) : Int)) :=
  rsplit 8 11 52 n rfl hn (by omega) (by omega) (by omega)
theorem rmake_zero (neg : Bool) (k : Nat) (hk : 100 < k) : gantlineref06_Make.f k neg (bs [48]) 0 = some (false, ⟨#[48]⟩, 0, 0) := by
  obtain ⟨k, rfl⟩ : ∃ q, k = q + 6 := ⟨k - 6, by omega⟩
  unfold gantlineref06_Make.f
  have hd : decide (((bs [48]).size : Int) > 4096) = false := by decide
  rw [bs_list, if_neg (by simp), hd, gantlineref06_Make.j0, if_neg (by simp), gantlineref06_Make.l0, if_pos (by decide), if_pos (by decide)]
  have hdg : gantlineref06_digit.f (bt (bs [48]) 0) = some true := by decide +kernel
  rw [hdg, Option.bind_some, if_pos rfl, gantlineref06_Make.l0, if_neg (by decide +kernel), gantlineref06_Make.l1, if_pos (by decide +kernel), if_pos (by decide), if_pos (by decide +kernel), if_pos (by decide +kernel)]
  rw [gantlineref06_Make.l1, if_neg (by decide +kernel), gantlineref06_Make.j3, if_pos (by decide +kernel)]
theorem exact_same (n : Nat) (hn : n < 18446744073709551616) (k : Nat) (hk : 7000000 < k) : ∃ s b e r, flt_Exact.f k n = some (s, b, e, r) ∧ gantlineref07_Exact.f k n = some (s, b, e, r) := by
  by_cases hx : n / 4503599627370496 % 2048 = 2047
  · refine ⟨_, _, _, _, exact_far n hn hx k, ?_⟩
    unfold gantlineref07_Exact.f
    rw [rfinite_eq n hn, Option.bind_some, if_neg (by simp [hx])]
  · have hsame : ∀ r, gantlineref07_Exact.l0 k ((n / 9223372036854775808 : Nat) : Int) (mant n) (expo n) 0 = r → gantlineref07_Exact.f k n = r := by
      rintro r rfl
      unfold gantlineref07_Exact.f
      rw [rfinite_eq n hn, Option.bind_some, if_pos (by simp [hx]), rsplit8 n hn, Option.bind_some]
      dsimp only
      rw [rvalue8, Option.bind_some]
    by_cases hM : mant n = 0
    · refine ⟨_, _, _, _, exact_zero n hn hx hM k (by omega), hsame _ ?_⟩
      have h0 : n / 4503599627370496 % 2048 = 0 := by unfold mant at hM; split at hM <;> omega
      obtain ⟨k, rfl⟩ : ∃ r, k = r + 1 + 1 := ⟨k - 2, by omega⟩
      have he : expo n = -1074 := by unfold expo; rw [if_pos h0]; omega
      rw [hM, he, gantlineref07_Exact.l0, if_neg (by omega), gantlineref07_Exact.j1, rword_eq 0 (by omega) k (by omega), Option.bind_some, if_neg (by omega), if_neg (by omega)]
      rw [show (⟨(decN 0).toArray⟩ : ByteArray) = bs [48] from by rw [decN_lt (by omega)]; rfl, rmake_zero _ k (by omega), Option.bind_some]
    · obtain ⟨s1, s2, s3, s4⟩ := tw_spec n hM
      obtain ⟨x0, x1⟩ := expo_range n
      have hml := mant_lt n
      have hpos : 0 < (2 : Nat) ^ tw n := Nat.pow_pos (by omega)
      have hmle : mw n ≤ mant n := by rw [s1]; exact Nat.le_mul_of_pos_right _ hpos
      have hm0 : mw n ≠ 0 := by intro h; rw [h] at s1; simp at s1; exact hM s1
      have hpw : pw n = expo n + tw n := rfl
      have hV0 : mw n * (if pw n < 0 then 5 else 2) ^ (pw n).natAbs ≠ 0 := by
        refine Nat.mul_ne_zero hm0 (Nat.ne_of_gt (Nat.pow_pos ?_))
        split <;> omega
      obtain ⟨mm, z, hV, hmm⟩ := strip10 _ hV0
      refine ⟨_, _, _, _, exact_num n hn hx hM mm z hV hmm k (by omega), hsame _ ?_⟩
      obtain ⟨k, rfl⟩ : ∃ r, k = r + tw n + 1 := ⟨k - tw n - 1, by omega⟩
      have hl := rexact_l0 (n / 9223372036854775808) (mw n) (pw n) hm0 k (tw n) (by omega) s3 (by omega) (by omega) (by rw [← s1]; omega)
      rw [← s1, show pw n - (tw n : Int) = expo n from by omega] at hl
      rw [hl]
      by_cases hp : pw n < 0
      · rw [if_pos hp] at hV ⊢
        exact rexact_j1 _ (mw n) 5 (pw n).natAbs (pw n) (pw n) hm0 (by omega) (by omega) (by omega) (by omega) (by omega) (by omega) (Or.inr ⟨hp, by omega, rfl, rfl⟩) mm z hV hmm k (by omega)
      · rw [if_neg hp] at hV ⊢
        exact rexact_j1 _ (mw n) 2 (pw n).natAbs (pw n) 0 hm0 (by omega) (by omega) (by omega) (by omega) (by omega) (by omega) (Or.inl ⟨by omega, by omega, rfl, rfl⟩) mm z hV hmm k (by omega)
end Go.Proofs.YtfndkpifgmcomaaDoor.Q
namespace Go.Proofs.YtfndkpifgmcomaaDoor.Pure
open Go Go.RowKit Go.Proofs.YtfndkpifgmcomaaDoor.XD Go.Proofs.YtfndkpifgmcomaaDoorW.PrintWords Go.Proofs.YtfndkpifgmcomaaDoorW.PrintLast Q
theorem FltExact : gantlinelaw07_FltExact.Pure := by
  intro a0 hwf
  obtain ⟨h0, h1⟩ : 0 ≤ a0 ∧ a0 ≤ 18446744073709551615 := wf_u64 hwf
  obtain ⟨n, rfl⟩ := Int.eq_ofNat_of_zero_le h0
  have hn : n < 18446744073709551616 := by omega
  refine ⟨8000000, ?_⟩
  obtain ⟨s, b, e, r, e1, e2⟩ := exact_same n hn 8000000 (by omega)
  unfold gantlinelaw07_FltExact.f
  rw [e1, Option.bind_some, e2, Option.bind_some, if_pos (by simp), if_pos rfl, finite_eq n hn, rfinite_eq n hn, Option.bind_some, Option.bind_some, if_pos (by simp), neg_eq n, rneg_eq n hn, Option.bind_some, Option.bind_some, if_pos (by simp), alive7 8000000 (by omega), Option.bind_some]
end Go.Proofs.YtfndkpifgmcomaaDoor.Pure
end
