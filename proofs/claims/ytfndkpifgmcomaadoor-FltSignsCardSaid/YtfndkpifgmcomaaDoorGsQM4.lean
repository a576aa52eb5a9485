/- Part of this claim: QAlive, QSigns. -/
import Derived.Laws.Bits64
import Derived.Test.YtfndkpifgmcomaaDoorGsXM4
import Derived.Test.YtfndkpifgmcomaaDoorGsQM3
section
namespace Go.Proofs.YtfndkpifgmcomaaDoor.Q
open Go Go.RowKit Go.Proofs.YtfndkpifgmcomaaDoor.XD Go.Proofs.YtfndkpifgmcomaaDoorW.PrintWords Go.Proofs.YtfndkpifgmcomaaDoorW.PrintLast Go.Proofs.YtfndkpifgmcomaaDoorW.PrintMore
open Go.Proofs.YtfndkpifgmcomaaDoor.QNum (isNum isNum_iff vN decN decN_len decN_isNum vN_decN decN_lt decN_ge decN_ne decN_head vN_lt)
set_option linter.unusedVariables false
theorem widen_one : flt_Widen.f 15360 2 = some (4607182418800017408, 0) := by decide +kernel
theorem narrow_one : flt_Narrow.f 4607182418800017408 = some (15360, 2) := by decide +kernel
theorem tenth : (mw 4591870180066957722 = 3602879701896397 ∧ pw 4591870180066957722 = -55 ∧ mant 4591870180066957722 ≠ 0) := by decide +kernel
theorem tenV : (3602879701896397 * 5 ^ 55) % 10 ≠ 0 ∧ 10 ^ 54 ≤ 3602879701896397 * 5 ^ 55 ∧ 3602879701896397 * 5 ^ 55 < 10 ^ 55 := by decide +kernel
theorem exact_tenth (k : Nat) (hk : 6000000 < k) : ∃ b : ByteArray, flt_Exact.f k 4591870180066957722 = some (false, b, -55, 0) ∧ b.size = 55 := by
  obtain ⟨h1, h2, h3⟩ := tenth
  obtain ⟨v1, v2, v3⟩ := tenV
  have := exact_num 4591870180066957722 (by omega) (by decide) h3 (3602879701896397 * 5 ^ 55) 0 (by rw [h1, h2, Nat.pow_zero, Nat.mul_one]; rfl) v1 k hk
  rw [h2] at this
  refine ⟨bs (decN (3602879701896397 * 5 ^ 55)), this, ?_⟩
  rw [bs_size]
  have l1 := decN_len _ 55 v3 (by omega)
  have l2 := vN_lt (decN (3602879701896397 * 5 ^ 55)).length (decN (3602879701896397 * 5 ^ 55)) rfl ((isNum_iff _).1 (decN_isNum _)).1
  rw [vN_decN] at l2
  rcases Nat.lt_or_ge (decN (3602879701896397 * 5 ^ 55)).length 55 with h | h
  · exfalso
    have : (10 : Nat) ^ (decN (3602879701896397 * 5 ^ 55)).length ≤ 10 ^ 54 := Nat.pow_le_pow_right (by omega) (by omega)
    omega
  · omega
theorem alive7 (k : Nat) (hk : 6000000 < k) : gantlinelaw07_alive.f k = some true := by
  obtain ⟨b, h1, h2⟩ := exact_tenth k hk
  unfold gantlinelaw07_alive.f
  rw [widen_one, Option.bind_some, narrow_one, Option.bind_some, h1, Option.bind_some]
  simp only [if_true, h2]
  rfl
end Go.Proofs.YtfndkpifgmcomaaDoor.Q
end
section
namespace Go.Proofs.YtfndkpifgmcomaaDoor.Q
open Go Go.RowKit Go.Proofs.YtfndkpifgmcomaaDoor.XD Go.Proofs.YtfndkpifgmcomaaDoorW.PrintWords Go.Proofs.YtfndkpifgmcomaaDoorW.PrintLast Go.Proofs.YtfndkpifgmcomaaDoorW.PrintMore
open Go.Proofs.YtfndkpifgmcomaaDoor.QNum (decN decN_ne)
set_option linter.unusedVariables false
theorem wf_u64 {a : Int} (h : (Lit.int .u64 a).wf = true) : 0 ≤ a ∧ a ≤ 18446744073709551615 := by
  simp only [Lit.wf, Bool.and_eq_true, decide_eq_true_eq] at h
  exact h
theorem flip_eq (n : Nat) (hn : n < 18446744073709551616) : ∃ n' : Nat, Go.bits .xor .u64 (n : Int) 9223372036854775808 = (n' : Int) ∧ n' < 18446744073709551616 ∧ n' % 9223372036854775808 = n % 9223372036854775808 ∧ n' / 9223372036854775808 = 1 - n / 9223372036854775808 := by
  have h1 := bits_xor_u64_nat n 9223372036854775808 hn (by omega)
  have e63 : (2 : Nat) ^ 63 = 9223372036854775808 := rfl
  have hm : (n ^^^ 9223372036854775808) % 2 ^ 63 = n % 2 ^ 63 := by
    rw [Nat.xor_mod_two_pow]
    simp
  have hd : (n ^^^ 9223372036854775808) / 2 ^ 63 = n / 2 ^ 63 ^^^ 1 := by
    rw [← Nat.shiftRight_eq_div_pow, Nat.shiftRight_xor_distrib, Nat.shiftRight_eq_div_pow, Nat.shiftRight_eq_div_pow]
  rw [e63] at hm hd
  refine ⟨n ^^^ 9223372036854775808, h1, ?_, hm, ?_⟩
  · have : n / 9223372036854775808 = 0 ∨ n / 9223372036854775808 = 1 := by omega
    rcases this with h | h <;> rw [h] at hd <;> simp at hd <;> omega
  · have : n / 9223372036854775808 = 0 ∨ n / 9223372036854775808 = 1 := by omega
    rcases this with h | h <;> rw [h] at hd ⊢ <;> simp at hd ⊢ <;> omega
theorem same_parts {n n' : Nat} (h : n' % 9223372036854775808 = n % 9223372036854775808) : n' / 4503599627370496 % 2048 = n / 4503599627370496 % 2048 ∧ n' % 4503599627370496 = n % 4503599627370496 := by
  omega
theorem same_all {n n' : Nat} (h : n' % 9223372036854775808 = n % 9223372036854775808) : mant n' = mant n ∧ expo n' = expo n ∧ mw n' = mw n ∧ pw n' = pw n := by
  obtain ⟨h1, h2⟩ := same_parts h
  have hm : mant n' = mant n := by unfold mant; rw [h1, h2]
  have he : expo n' = expo n := by unfold expo; rw [h1]
  have ht : tw n' = tw n := by unfold tw; rw [hm, he]
  exact ⟨hm, he, by unfold mw; rw [hm, ht], by unfold pw; rw [he, ht]⟩
theorem neg_eq (n : Nat) : flt_Negative.f (n : Int) = some (decide (n / 9223372036854775808 ≠ 0)) := by
  unfold flt_Negative.f
  congr 1
  rw [Bool.eq_iff_iff, bne_iff_ne, decide_eq_true_iff]
  omega
end Go.Proofs.YtfndkpifgmcomaaDoor.Q
namespace Go.Proofs.YtfndkpifgmcomaaDoor.Pure
open Go Go.RowKit Go.Proofs.YtfndkpifgmcomaaDoor.XD Go.Proofs.YtfndkpifgmcomaaDoorW.PrintWords Go.Proofs.YtfndkpifgmcomaaDoorW.PrintLast Q
theorem FltSigns : gantlinelaw07_FltSigns.Pure := by
  intro a0 hwf
  obtain ⟨h0, h1⟩ : 0 ≤ a0 ∧ a0 ≤ 18446744073709551615 := wf_u64 hwf
  obtain ⟨n, rfl⟩ := Int.eq_ofNat_of_zero_le h0
  have hn : n < 18446744073709551616 := by omega
  obtain ⟨n', e1, hn', hm', hd'⟩ := flip_eq n hn
  obtain ⟨p1, p2⟩ := same_parts hm'
  obtain ⟨m1, m2, m3, m4⟩ := same_all hm'
  refine ⟨8000002, ?_⟩
  unfold gantlinelaw07_FltSigns.f
  rw [e1, neg_eq n, neg_eq n']
  have hs : n / 9223372036854775808 = 0 ∨ n / 9223372036854775808 = 1 := by omega
  have hb : ((decide (n / 9223372036854775808 ≠ 0)) == (decide (n' / 9223372036854775808 ≠ 0))) = false := by
    rw [hd']
    rcases hs with h | h <;> rw [h] <;> rfl
  have ha := alive7 8000000 (by omega)
  by_cases hx : n / 4503599627370496 % 2048 = 2047
  · rw [exact_far n hn hx, exact_far n' hn' (by rw [p1]; exact hx), Option.bind_some, Option.bind_some, if_pos rfl, Option.bind_some, Option.bind_some, hb]
    rw [gantlinelaw07_FltSigns.j0, if_neg (by simp), if_neg (show ¬((12 : Int) = 0) by omega), gantlinelaw07_FltSigns.j1, if_pos rfl, if_pos (by simp), ha]
    rfl
  · by_cases hM : mant n = 0
    · rw [exact_zero n hn hx hM _ (by omega), exact_zero n' hn' (by rw [p1]; exact hx) (by rw [m1]; exact hM) _ (by omega), Option.bind_some, Option.bind_some, if_pos rfl, Option.bind_some, Option.bind_some, hb]
      rw [gantlinelaw07_FltSigns.j0, if_neg (by simp), if_pos rfl, gantlinelaw07_FltSigns.j1, if_pos (by rw [ByteArray.toList_eq]; rfl), if_pos (by simp), ha]
      rfl
    · obtain ⟨s1, s2, s3, s4⟩ := tw_spec n hM
      have hm0 : mw n ≠ 0 := by intro h; rw [h] at s1; simp at s1; exact hM s1
      have hV0 : mw n * (if pw n < 0 then 5 else 2) ^ (pw n).natAbs ≠ 0 := by
        refine Nat.mul_ne_zero hm0 (Nat.ne_of_gt (Nat.pow_pos ?_))
        split <;> omega
      obtain ⟨mm, z, hV, hmm⟩ := strip10 _ hV0
      have r1 := exact_num n hn hx hM mm z hV hmm 8000002 (by omega)
      have r2 := exact_num n' hn' (by rw [p1]; exact hx) (by rw [m1]; exact hM) mm z (by rw [m3, m4]; exact hV) hmm 8000002 (by omega)
      rw [m4] at r2
      rw [r1, r2, Option.bind_some, Option.bind_some, if_pos rfl, Option.bind_some, Option.bind_some, hb]
      have hne : ((bs (QNum.decN mm)).toList == ([48] : List UInt8)) = false := by
        rw [bs_list, beq_eq_false_iff_ne]
        exact ne48 (by omega)
      rw [gantlinelaw07_FltSigns.j0, if_neg (by simp), if_pos rfl, hne, gantlinelaw07_FltSigns.j1, if_neg (by simp), if_pos ?_, ha]
      · rfl
      · simp only [beq_self_eq_true, Bool.and_true]
        rw [hd']
        rcases hs with h | h <;> rw [h] <;> rfl
end Go.Proofs.YtfndkpifgmcomaaDoor.Pure
end
