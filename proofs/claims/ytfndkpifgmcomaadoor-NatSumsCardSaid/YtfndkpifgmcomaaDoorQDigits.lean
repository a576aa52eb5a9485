/- What number.digits and nat.read compute, in numbers. -/
import Derived.Test.YtfndkpifgmcomaaDoorQCarry
import Derived.Test.YtfndkpifgmcomaaDoorERead
namespace Go.Proofs.YtfndkpifgmcomaaDoor.Q
open Go.RowKit Go.Proofs.YtfndkpifgmcomaaDoor.XD Go.Proofs.YtfndkpifgmcomaaDoorW.PrintWords Go.Proofs.YtfndkpifgmcomaaDoorW.PrintLast Go.Proofs.YtfndkpifgmcomaaDoorW.PrintMore
open Go.Proofs.YtfndkpifgmcomaaDoor.QNum (bv bv_append bv_set bv_nonneg bv_replicate bv_lt vN vN_snoc vN_append isNum isNum_iff decN decN_lt decN_ge decN_vN num_eq decN_isNum vN_decN decN_ne decN_head vN_lt decN_len vN_zeros)
set_option linter.unusedVariables false

theorem isDig_same (c : UInt8) : XD.isDig c = QNum.isDig c := rfl
theorem dec10F_eq : ∀ (f n : Nat), n < 10 ^ (f + 1) → dec10F (f + 1) n = decN n := by
  intro f
  induction f with
  | zero => intro n hn; rw [dec10F, if_pos (by simpa using hn), decN_lt (by simpa using hn)]
  | succ f ih =>
    intro n hn
    rw [dec10F]
    by_cases h : n < 10
    · rw [if_pos h, decN_lt h]
    · rw [if_neg h, decN_ge h, ih (n / 10) (by rw [Nat.pow_succ] at hn; omega)]
theorem dec10_decN (n : Nat) (h : n < 100000000000000000000) : dec10 n = decN n := dec10F_eq 19 n (by omega)

theorem BBpow_pos (n : Nat) : 0 < BB ^ n := Int.pow_pos (by unfold BB; omega)
theorem canon_tail {x : Int} {ys : List Int} (h : Canon (x :: ys)) : Canon ys := ⟨fun y hy => h.small y (List.mem_cons_of_mem _ hy), fun q c e => h.top (x :: q) c (by rw [e]; rfl)⟩
theorem canon_pos : ∀ (ys : List Int), Canon ys → ys ≠ [] → 0 < bv BB ys
  | [], _, h => absurd rfl h
  | [x], h, _ => by
    have h1 := h.small x (by simp)
    have h2 := h.top [] x rfl
    simp only [bv]
    omega
  | x :: y :: ys, h, _ => by
    have h1 := canon_pos (y :: ys) (canon_tail h) (by simp)
    have h2 := h.small x (by simp)
    have : bv BB (x :: y :: ys) = x + BB * bv BB (y :: ys) := rfl
    rw [this]
    unfold BB at *
    omega
theorem digL_eq : ∀ (ys : List Int), Canon ys → ys ≠ [] → digL ys.reverse = decN (bv BB ys).toNat
  | [], _, h => absurd rfl h
  | [x], h, _ => by
    have h1 := h.small x (by simp)
    simp only [List.reverse_singleton, digL, List.foldl_cons, List.foldl_nil, digStep, List.nil_append, if_true, bv, Int.mul_zero, Int.add_zero]
    exact dec10_decN _ (by omega)
  | x :: y :: ys, h, _ => by
    have hp := canon_pos (y :: ys) (canon_tail h) (by simp)
    have ih := digL_eq (y :: ys) (canon_tail h) (by simp)
    have h1 := h.small x (by simp)
    have e : digL (x :: y :: ys).reverse = digStep (digL (y :: ys).reverse) x := by rw [List.reverse_cons, digL_snoc]
    rw [e, ih]
    generalize hv : (bv BB (y :: ys)).toNat = v
    have hv0 : v ≠ 0 := by omega
    unfold digStep
    rw [if_neg (decN_ne v), dec10_decN _ (by omega)]
    have hx := ((isNum_iff _).1 (decN_isNum x.toNat)).1
    have hl := decN_len x.toNat 9 (by omega) (by omega)
    refine num_eq ((isNum_iff _).2 ⟨fun c hc => ?_, by simp [decN_ne v], .inr ?_⟩) ?_
    · rcases List.mem_append.1 hc with hc | hc
      · exact ((isNum_iff _).1 (decN_isNum v)).1 c hc
      · rcases List.mem_append.1 hc with hc | hc
        · rw [List.eq_of_mem_replicate hc]; decide
        · exact hx c hc
    · obtain ⟨d, q, e2⟩ := List.exists_cons_of_ne_nil (decN_ne v)
      have := decN_head v hv0
      rw [e2] at this ⊢
      exact this
    · rw [vN_append _ 9 _ (by rw [List.length_append, List.length_replicate]; omega), vN_zeros, vN_decN, vN_decN]
      have : bv BB (x :: y :: ys) = x + BB * bv BB (y :: ys) := rfl
      rw [this]
      unfold BB at *
      omega
theorem digits_eq (ys : List Int) (h : Canon ys) (hl : ys.length ≤ 1000000) : nat_number_digits.f ys = some ⟨(decN (bv BB ys).toNat).toArray⟩ := by
  unfold nat_number_digits.f
  rw [if_pos ⟨by
    rw [List.all_eq_true]
    intro x hx
    have := h.small x hx
    simp [okLimb]; omega, hl⟩]
  by_cases hz : ys = []
  · rw [if_pos hz, hz]
    simp only [bv]
    rw [decN_lt (by simp)]
    rfl
  · rw [if_neg hz, digL_eq ys h hz]

/-! ### reading -/
theorem val_vN (l : List UInt8) (h : l.all XD.isDig = true) : val l = (vN l : Int) := by
  suffices ∀ (n : Nat) (l : List UInt8), l.length = n → l.all XD.isDig = true → val l = (vN l : Int) from this _ l rfl h
  intro n
  induction n with
  | zero => intro l hl _; obtain rfl := List.eq_nil_of_length_eq_zero hl; rfl
  | succ n ih =>
    intro l hl ha
    have hne : l ≠ [] := by intro e; simp [e] at hl
    obtain ⟨q, c, rfl⟩ : ∃ q c, l = q ++ [c] := ⟨l.dropLast, l.getLast hne, (List.dropLast_concat_getLast hne).symm⟩
    rw [List.all_append] at ha
    simp only [Bool.and_eq_true] at ha
    have hc := (XD.isDig_iff c).1 (by simpa using ha.2)
    rw [val_snoc, vN_snoc, ih q (by simpa using hl) ha.1]
    omega
theorem readL_eq : ∀ (k : Nat) (l : List UInt8) (n : List Int), l.all XD.isDig = true → l.length < k → (∀ x ∈ n, 0 ≤ x ∧ x ≤ 999999999) →
    bv BB (readL k l n) = bv BB n + BB ^ n.length * (vN l : Int) ∧ (∀ x ∈ readL k l n, 0 ≤ x ∧ x ≤ 999999999) ∧ (readL k l n).length * 9 ≤ n.length * 9 + l.length + 8 := by
  intro k
  induction k with
  | zero => intro l n _ h; omega
  | succ k ih =>
    intro l n ha hl hn
    by_cases hz : l = []
    · subst hz
      simp only [readL, if_true]
      exact ⟨by simp [vN], hn, by simp⟩
    · rw [readL_step k l n hz]
      have hpos : 0 < l.length := List.length_pos_iff.2 hz
      obtain ⟨h1, h2, h3⟩ := ih (l.take (l.length - 9)) (n ++ [val (l.drop (l.length - 9))]) (all_take _ _ ha) (by rw [List.length_take]; omega) (by
        intro x hx
        rcases List.mem_append.1 hx with hx | hx
        · exact hn x hx
        · obtain rfl : x = val (l.drop (l.length - 9)) := by simpa using hx
          exact val_small _ (by rw [List.length_drop]; omega) (all_drop _ _ ha))
      refine ⟨?_, h2, ?_⟩
      · rw [h1, bv_append, List.length_append, List.length_singleton, Int.pow_succ]
        simp only [bv, Int.mul_zero, Int.add_zero]
        rw [val_vN _ (all_drop _ _ ha)]
        have hv : vN l = vN (l.take (l.length - 9)) * 10 ^ (l.length - (l.length - 9)) + vN (l.drop (l.length - 9)) := by
          conv => lhs; rw [← List.take_append_drop (l.length - 9) l]
          exact vN_append _ _ _ (by rw [List.length_drop])
        by_cases h9 : 9 ≤ l.length
        · rw [show l.length - (l.length - 9) = 9 from by omega] at hv
          rw [hv]
          have h10 : (((10 ^ 9 : Nat)) : Int) = BB := by unfold BB; rfl
          rw [Int.natCast_add, Int.natCast_mul, h10]
          grind
        · have e0 : l.length - 9 = 0 := by omega
          rw [e0] at hv ⊢
          simp only [List.take_zero, List.drop_zero]
          have : vN ([] : List UInt8) = 0 := rfl
          rw [this]
          rw [Int.natCast_zero, Int.mul_zero, Int.add_zero]
      · rw [List.length_append, List.length_singleton, List.length_take] at h3
        omega
theorem read_eq (s : ByteArray) (ha : s.data.toList.all XD.isDig = true) (hs : s.size ≤ 1000000) :
    ∃ xs, nat_read.f s = some xs ∧ bv BB xs = (vN s.data.toList : Int) ∧ (∀ x ∈ xs, 0 ≤ x ∧ x ≤ 999999999) ∧ xs.length * 9 ≤ s.size + 8 := by
  obtain ⟨h1, h2, h3⟩ := readL_eq (s.size + 1) s.data.toList [] ha (by rw [lsize]; omega) (by simp)
  refine ⟨_, by unfold nat_read.f; rw [if_pos ⟨ha, by omega⟩], by rw [h1]; simp [bv], h2, ?_⟩
  rw [lsize] at h3
  simpa using h3
end Go.Proofs.YtfndkpifgmcomaaDoor.Q
