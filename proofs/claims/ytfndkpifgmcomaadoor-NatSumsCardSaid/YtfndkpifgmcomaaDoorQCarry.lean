/- What number.carry computes: the same value, in places that are no greater than they may be, and no 0 at the top. -/
import Derived.Test.YtfndkpifgmcomaaDoorX3
import Derived.Test.YtfndkpifgmcomaaDoorEDigits
import Derived.Test.YtfndkpifgmcomaaDoorQNum
namespace Go.Proofs.YtfndkpifgmcomaaDoor.Q
open Go.RowKit Go.Proofs.YtfndkpifgmcomaaDoor.XD Go.Proofs.YtfndkpifgmcomaaDoor.QNum Go.Proofs.YtfndkpifgmcomaaDoorW.PrintWords Go.Proofs.YtfndkpifgmcomaaDoorW.PrintLast Go.Proofs.YtfndkpifgmcomaaDoorW.PrintMore
set_option linter.unusedVariables false

theorem w64 {x : Int} (h0 : -9223372036854775808 ≤ x) (h1 : x ≤ 9223372036854775807) : wrap64 x = x := by unfold wrap64; omega
theorem wu {x : Int} (h0 : 0 ≤ x) (h1 : x < 18446744073709551616) : IntKind.u64.wrap x = x := by rw [IntKind.wrap_u64]; omega
theorem tmod_ {x : Int} (h : 0 ≤ x) (b : Int) : Int.tmod x b = x % b := Int.tmod_eq_emod_of_nonneg h
theorem tdiv_ {x : Int} (h : 0 ≤ x) (b : Int) : Int.tdiv x b = x / b := Int.tdiv_eq_ediv_of_nonneg h
theorem rd_mid (pre suf : List Int) (x : Int) : rd (pre ++ x :: suf) (pre.length : Int) = x := by simp [rd]
theorem set_mid (pre suf : List Int) (x v : Int) : (pre ++ x :: suf).set ((pre.length : Int)).toNat v = pre ++ v :: suf := by simp

/-- Places that are no greater than they may be, the highest not 0. -/
structure Canon (ys : List Int) : Prop where
  small : ∀ y ∈ ys, 0 ≤ y ∧ y ≤ 999999999
  top : ∀ q c, ys = q ++ [c] → c ≠ 0
def BB : Int := 1000000000

theorem l2_eq : ∀ (n k : Nat) (xs : List Int), xs.length = n → n ≤ 1000000000000 → n < k → (∀ y ∈ xs, 0 ≤ y ∧ y ≤ 999999999) →
    ∃ ys, nat_number_carry.l2 k xs = some ys ∧ bv BB ys = bv BB xs ∧ Canon ys ∧ ys.length ≤ n := by
  intro n
  induction n with
  | zero =>
    intro k xs hx _ hk hs
    obtain ⟨k, rfl⟩ : ∃ q, k = q + 1 := ⟨k - 1, by omega⟩
    obtain rfl := List.eq_nil_of_length_eq_zero hx
    refine ⟨[], by simp [nat_number_carry.l2], rfl, ⟨fun y hy => by simp at hy, fun q c e => by simp at e⟩, by simp⟩
  | succ n ih =>
    intro k xs hx hn hk hs
    obtain ⟨k, rfl⟩ : ∃ q, k = q + 1 := ⟨k - 1, by omega⟩
    have hne : xs ≠ [] := by intro e; simp [e] at hx
    obtain ⟨q, c, rfl⟩ : ∃ q c, xs = q ++ [c] := ⟨xs.dropLast, xs.getLast hne, (List.dropLast_concat_getLast hne).symm⟩
    have hq : q.length = n := by simpa using hx
    have hl : (((q ++ [c]).length : Nat) : Int) - 1 = (q.length : Int) := by simp
    simp only [nat_number_carry.l2]
    rw [hl, w64 (by omega) (by omega), rd_mid, if_pos (by simp <;> omega), if_pos (by omega), if_pos (by simp <;> omega)]
    by_cases hc : c = 0
    · rw [if_pos hc, if_pos (by simp <;> omega), show ((q.length : Int)).toNat = q.length from by omega, List.take_left]
      obtain ⟨ys, h1, h2, h3, h4⟩ := ih k q hq (by omega) (by omega) (fun y hy => hs y (List.mem_append_left _ hy))
      refine ⟨ys, h1, ?_, h3, by omega⟩
      rw [h2, bv_append, hc]
      simp [bv]
    · rw [if_neg hc]
      refine ⟨_, rfl, rfl, ⟨hs, fun q' c' e => ?_⟩, by omega⟩
      have := List.append_inj_right' e rfl
      simp at this
      subst this
      exact hc

theorem l1_eq : ∀ (m k : Nat) (xs : List Int) (o : Int), 0 ≤ o → o < BB ^ m → o < 18446744073709551616 → xs.length + m ≤ 1000000000000 → xs.length + 2 * m + 1 < k → (∀ y ∈ xs, 0 ≤ y ∧ y ≤ 999999999) →
    ∃ ys, nat_number_carry.l1 k xs o = some ys ∧ bv BB ys = bv BB xs + BB ^ xs.length * o ∧ Canon ys ∧ ys.length ≤ xs.length + m := by
  intro m
  induction m with
  | zero =>
    intro k xs o h0 h1 _ hn hk hs
    obtain ⟨k, rfl⟩ : ∃ q, k = q + 1 := ⟨k - 1, by omega⟩
    obtain rfl : o = 0 := by simp at h1; omega
    simp only [nat_number_carry.l1]
    rw [if_neg (by omega)]
    obtain ⟨ys, e1, e2, e3, e4⟩ := l2_eq xs.length k xs rfl (by omega) (by omega) hs
    exact ⟨ys, e1, by rw [e2]; simp, e3, by omega⟩
  | succ m ih =>
    intro k xs o h0 h1 hb hn hk hs
    obtain ⟨k, rfl⟩ : ∃ q, k = q + 1 := ⟨k - 1, by omega⟩
    simp only [nat_number_carry.l1]
    by_cases hz : o > 0
    · rw [if_pos hz, if_pos (by omega), tmod_ h0, tdiv_ h0, wu (by omega) (by omega)]
      have hd : o / 1000000000 < BB ^ m := by
        rw [Int.pow_succ] at h1
        exact Int.ediv_lt_of_lt_mul (by omega) h1
      obtain ⟨ys, e1, e2, e3, e4⟩ := ih k (xs ++ [o % 1000000000]) (o / 1000000000) (by omega) hd (by omega) (by simp; omega) (by simp; omega) (by
        intro y hy
        rcases List.mem_append.1 hy with hy | hy
        · exact hs y hy
        · obtain rfl : y = o % 1000000000 := by simpa using hy
          omega)
      refine ⟨ys, e1, ?_, e3, by simp at e4; omega⟩
      rw [e2, bv_append, List.length_append, List.length_singleton, Int.pow_succ]
      have h3 : o % 1000000000 + 1000000000 * (o / 1000000000) = o := by omega
      simp only [bv, Int.mul_zero, Int.add_zero]
      conv => rhs; rw [← h3]
      unfold BB
      grind
    · obtain rfl : o = 0 := by omega
      rw [if_neg hz]
      obtain ⟨ys, e1, e2, e3, e4⟩ := l2_eq xs.length k xs rfl (by omega) (by omega) hs
      exact ⟨ys, e1, by rw [e2]; simp, e3, by omega⟩

theorem l0_eq : ∀ (suf pre : List Int) (k : Nat) (o : Int), 0 ≤ o → o ≤ 18446744073 → pre.length + suf.length ≤ 100000000000 → 2 * suf.length + pre.length + 20 < k →
    (∀ y ∈ pre, 0 ≤ y ∧ y ≤ 999999999) → (∀ y ∈ suf, 0 ≤ y ∧ y ≤ 9223372036854775807) →
    ∃ ys, nat_number_carry.l0 k (pre ++ suf) o ((pre.length + suf.length : Nat) : Int) pre.length = some ys ∧ bv BB ys = bv BB (pre ++ suf) + BB ^ pre.length * o ∧ Canon ys ∧ ys.length ≤ pre.length + suf.length + 2 := by
  intro suf
  induction suf with
  | nil =>
    intro pre k o h0 h1 hn hk hp hs
    obtain ⟨k, rfl⟩ : ∃ q, k = q + 1 := ⟨k - 1, by omega⟩
    simp only [nat_number_carry.l0]
    rw [if_neg (by simp), List.append_nil]
    obtain ⟨ys, e1, e2, e3, e4⟩ := l1_eq 2 k pre o h0 (by unfold BB; omega) (by omega) (by omega) (by simp at hk; omega) hp
    exact ⟨ys, e1, e2, e3, by simpa using e4⟩
  | cons x suf ih =>
    intro pre k o h0 h1 hn hk hp hs
    obtain ⟨k, rfl⟩ : ∃ q, k = q + 1 := ⟨k - 1, by omega⟩
    have hx := hs x List.mem_cons_self
    simp only [List.length_cons] at hn hk ⊢
    simp only [nat_number_carry.l0]
    rw [rd_mid, set_mid, if_pos (by omega), if_pos (by omega), if_pos (by simp <;> omega), wu (x := x + o) (by omega) (by omega), tmod_ (by omega), tdiv_ (by omega), wu (by omega) (by omega), w64 (by omega) (by omega)]
    obtain ⟨ys, e1, e2, e3, e4⟩ := ih (pre ++ [(x + o) % 1000000000]) k ((x + o) / 1000000000) (by omega) (by omega) (by simp; omega) (by simp; omega) (by
      intro y hy
      rcases List.mem_append.1 hy with hy | hy
      · exact hp y hy
      · obtain rfl : y = (x + o) % 1000000000 := by simpa using hy
        omega) (fun y hy => hs y (List.mem_cons_of_mem _ hy))
    refine ⟨ys, ?_, ?_, e3, by simp at e4; omega⟩
    · rw [← e1]
      simp only [List.append_assoc, List.singleton_append, List.length_append, List.length_singleton]
      congr 1
      omega
    · rw [e2]
      simp only [List.append_assoc, List.singleton_append, List.length_append, List.length_singleton]
      rw [bv_append, bv_append, Int.pow_succ]
      have h3 : (x + o) % 1000000000 + 1000000000 * ((x + o) / 1000000000) = x + o := by omega
      simp only [bv]
      have h4 : x = (x + o) % 1000000000 + 1000000000 * ((x + o) / 1000000000) - o := by omega
      generalize (x + o) % 1000000000 = r at *
      generalize (x + o) / 1000000000 = q at *
      subst h4
      unfold BB
      grind

/-- carry: the same value, and canonical. -/
theorem carry_eq (xs : List Int) (hn : xs.length ≤ 100000000000) (hs : ∀ y ∈ xs, 0 ≤ y ∧ y ≤ 9223372036854775807) (k : Nat) (hk : 2 * xs.length + 20 < k) :
    ∃ ys, nat_number_carry.f k xs = some ys ∧ bv BB ys = bv BB xs ∧ Canon ys ∧ ys.length ≤ xs.length + 2 := by
  obtain ⟨ys, e1, e2, e3, e4⟩ := l0_eq xs [] k 0 (by omega) (by omega) (by simpa using hn) (by simpa using hk) (by simp) hs
  refine ⟨ys, ?_, by simpa using e2, e3, by simpa using e4⟩
  simpa [nat_number_carry.f] using e1
end Go.Proofs.YtfndkpifgmcomaaDoor.Q
