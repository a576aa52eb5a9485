/- Part of this claim: QCarry, QBits, QTimes, QDigits, QSplit. -/
import Derived.Laws.Bits64b
import Derived.Test.YtfndkpifgmcomaaDoorGbXM1
import Derived.Test.YtfndkpifgmcomaaDoorGbEDigits
import Derived.Test.YtfndkpifgmcomaaDoorGbQM1
import Derived.Test.YtfndkpifgmcomaaDoorGbEWide
import Derived.Test.YtfndkpifgmcomaaDoorGbERead
section
namespace Go.Proofs.YtfndkpifgmcomaaDoor.Q
open Go.RowKit Go.Proofs.YtfndkpifgmcomaaDoor.XD Go.Proofs.YtfndkpifgmcomaaDoor.QNum Go.Proofs.YtfndkpifgmcomaaDoorW.PrintWords Go.Proofs.YtfndkpifgmcomaaDoorW.PrintLast Go.Proofs.YtfndkpifgmcomaaDoorW.PrintMore
set_option linter.unusedVariables false
theorem w64 {x : Int} (h0 : -9223372036854775808 ≤ x) (h1 : x ≤ 9223372036854775807) : wrap64 x = x := by unfold wrap64; omega
theorem wu {x : Int} (h0 : 0 ≤ x) (h1 : x < 18446744073709551616) : IntKind.u64.wrap x = x := by rw [IntKind.wrap_u64]; omega
theorem tmod_ {x : Int} (h : 0 ≤ x) (b : Int) : Int.tmod x b = x % b := Int.tmod_eq_emod_of_nonneg h
theorem tdiv_ {x : Int} (h : 0 ≤ x) (b : Int) : Int.tdiv x b = x / b := Int.tdiv_eq_ediv_of_nonneg h
theorem rd_mid (pre suf : List Int) (x : Int) : rd (pre ++ x :: suf) (pre.length : Int) = x := by simp [rd]
theorem set_mid (pre suf : List Int) (x v : Int) : (pre ++ x :: suf).set ((pre.length : Int)).toNat v = pre ++ v :: suf := by simp
structure Canon (ys : List Int) : Prop where
  small : ∀ y ∈ ys, 0 ≤ y ∧ y ≤ 999999999
  top : ∀ q c, ys = q ++ [c] → c ≠ 0
def BB : Int := 1000000000
theorem l2_eq : ∀ (n k : Nat) (xs : List Int), xs.length = n → n ≤ 1000000000000 → n < k → (∀ y ∈ xs, 0 ≤ y ∧ y ≤ 999999999) →
    ∃ ys, nat_number_carry.l2 k xs = some ys ∧ bv BB ys = bv BB xs ∧ Canon ys ∧ ys.length ≤ n := by
  intro n
  induction n with
  | zero =>
    intro k xs hx _ hk hs
    obtain ⟨k, rfl⟩ : ∃ q, k = q + 1 := ⟨k - 1, by omega⟩
    obtain rfl := List.eq_nil_of_length_eq_zero hx
    refine ⟨[], by simp [nat_number_carry.l2], rfl, ⟨fun y hy => by simp at hy, fun q c e => by simp at e⟩, by simp⟩
  | succ n ih =>
    intro k xs hx hn hk hs
    obtain ⟨k, rfl⟩ : ∃ q, k = q + 1 := ⟨k - 1, by omega⟩
    have hne : xs ≠ [] := by intro e; simp [e] at hx
    obtain ⟨q, c, rfl⟩ : ∃ q c, xs = q ++ [c] := ⟨xs.dropLast, xs.getLast hne, (List.dropLast_concat_getLast hne).symm⟩
    have hq : q.length = n := by simpa using hx
    have hl : (((q ++ [c]).length : Nat) : Int) - 1 = (q.length : Int) := by simp
    simp only [nat_number_carry.l2]
    rw [hl, w64 (by omega) (by omega), rd_mid, if_pos (by simp <;> omega), if_pos (by omega), if_pos (by simp <;> omega)]
    by_cases hc : c = 0
    · rw [if_pos hc, if_pos (by simp <;> omega), show ((q.length : Int)).toNat = q.length from by omega, List.take_left]
      obtain ⟨ys, h1, h2, h3, h4⟩ := ih k q hq (by omega) (by omega) (fun y hy => hs y (List.mem_append_left _ hy))
      refine ⟨ys, h1, ?_, h3, by omega⟩
      rw [h2, bv_append, hc]
      simp [bv]
    · rw [if_neg hc]
      refine ⟨_, rfl, rfl, ⟨hs, fun q' c' e => ?_⟩, by omega⟩
      have := List.append_inj_right' e rfl
      simp at this
      subst this
      exact hc
theorem l1_eq : ∀ (m k : Nat) (xs : List Int) (o : Int), 0 ≤ o → o < BB ^ m → o < 18446744073709551616 → xs.length + m ≤ 1000000000000 → xs.length + 2 * m + 1 < k → (∀ y ∈ xs, 0 ≤ y ∧ y ≤ 999999999) →
    ∃ ys, nat_number_carry.l1 k xs o = some ys ∧ bv BB ys = bv BB xs + BB ^ xs.length * o ∧ Canon ys ∧ ys.length ≤ xs.length + m := by
  intro m
  induction m with
  | zero =>
    intro k xs o h0 h1 _ hn hk hs
    obtain ⟨k, rfl⟩ : ∃ q, k = q + 1 := ⟨k - 1, by omega⟩
    obtain rfl : o = 0 := by simp at h1; omega
    simp only [nat_number_carry.l1]
    rw [if_neg (by omega)]
    obtain ⟨ys, e1, e2, e3, e4⟩ := l2_eq xs.length k xs rfl (by omega) (by omega) hs
    exact ⟨ys, e1, by rw [e2]; simp, e3, by omega⟩
  | succ m ih =>
    intro k xs o h0 h1 hb hn hk hs
    obtain ⟨k, rfl⟩ : ∃ q, k = q + 1 := ⟨k - 1, by omega⟩
    simp only [nat_number_carry.l1]
    by_cases hz : o > 0
    · rw [if_pos hz, if_pos (by omega), tmod_ h0, tdiv_ h0, wu (by omega) (by omega)]
      have hd : o / 1000000000 < BB ^ m := by
        rw [Int.pow_succ] at h1
        exact Int.ediv_lt_of_lt_mul (by omega) h1
      obtain ⟨ys, e1, e2, e3, e4⟩ := ih k (xs ++ [o % 1000000000]) (o / 1000000000) (by omega) hd (by omega) (by simp; omega) (by simp; omega) (by
        intro y hy
        rcases List.mem_append.1 hy with hy | hy
        · exact hs y hy
        · obtain rfl : y = o % 1000000000 := by simpa using hy
          omega)
      refine ⟨ys, e1, ?_, e3, by simp at e4; omega⟩
      rw [e2, bv_append, List.length_append, List.length_singleton, Int.pow_succ]
      have h3 : o % 1000000000 + 1000000000 * (o / 1000000000) = o := by omega
      simp only [bv, Int.mul_zero, Int.add_zero]
      conv => rhs; rw [← h3]
      unfold BB
      grind
    · obtain rfl : o = 0 := by omega
      rw [if_neg hz]
      obtain ⟨ys, e1, e2, e3, e4⟩ := l2_eq xs.length k xs rfl (by omega) (by omega) hs
      exact ⟨ys, e1, by rw [e2]; simp, e3, by omega⟩
theorem l0_eq : ∀ (suf pre : List Int) (k : Nat) (o : Int), 0 ≤ o → o ≤ 18446744073 → pre.length + suf.length ≤ 100000000000 → 2 * suf.length + pre.length + 20 < k →
    (∀ y ∈ pre, 0 ≤ y ∧ y ≤ 999999999) → (∀ y ∈ suf, 0 ≤ y ∧ y ≤ 9223372036854775807) →
    ∃ ys, nat_number_carry.l0 k (pre ++ suf) o ((pre.length + suf.length : Nat) : Int) pre.length = some ys ∧ bv BB ys = bv BB (pre ++ suf) + BB ^ pre.length * o ∧ Canon ys ∧ ys.length ≤ pre.length + suf.length + 2 := by
  intro suf
  induction suf with
  | nil =>
    intro pre k o h0 h1 hn hk hp hs
    obtain ⟨k, rfl⟩ : ∃ q, k = q + 1 := ⟨k - 1, by omega⟩
    simp only [nat_number_carry.l0]
    rw [if_neg (by simp), List.append_nil]
    obtain ⟨ys, e1, e2, e3, e4⟩ := l1_eq 2 k pre o h0 (by unfold BB; omega) (by omega) (by omega) (by simp at hk; omega) hp
    exact ⟨ys, e1, e2, e3, by simpa using e4⟩
  | cons x suf ih =>
    intro pre k o h0 h1 hn hk hp hs
    obtain ⟨k, rfl⟩ : ∃ q, k = q + 1 := ⟨k - 1, by omega⟩
    have hx := hs x List.mem_cons_self
    simp only [List.length_cons] at hn hk ⊢
    simp only [nat_number_carry.l0]
    rw [rd_mid, set_mid, if_pos (by omega), if_pos (by omega), if_pos (by simp <;> omega), wu (x := x + o) (by omega) (by omega), tmod_ (by omega), tdiv_ (by omega), wu (by omega) (by omega), w64 (by omega) (by omega)]
    obtain ⟨ys, e1, e2, e3, e4⟩ := ih (pre ++ [(x + o) % 1000000000]) k ((x + o) / 1000000000) (by omega) (by omega) (by simp; omega) (by simp; omega) (by
      intro y hy
      rcases List.mem_append.1 hy with hy | hy
      · exact hp y hy
      · obtain rfl : y = (x + o) % 1000000000 := by simpa using hy
        omega) (fun y hy => hs y (List.mem_cons_of_mem _ hy))
    refine ⟨ys, ?_, ?_, e3, by simp at e4; omega⟩
    · rw [← e1]
      simp only [List.append_assoc, List.singleton_append, List.length_append, List.length_singleton]
      congr 1
      omega
    · rw [e2]
      simp only [List.append_assoc, List.singleton_append, List.length_append, List.length_singleton]
      rw [bv_append, bv_append, Int.pow_succ]
      have h3 : (x + o) % 1000000000 + 1000000000 * ((x + o) / 1000000000) = x + o := by omega
      simp only [bv]
      have h4 : x = (x + o) % 1000000000 + 1000000000 * ((x + o) / 1000000000) - o := by omega
      generalize (x + o) % 1000000000 = r at *
      generalize (x + o) / 1000000000 = q at *
      subst h4
      unfold BB
      grind
theorem carry_eq (xs : List Int) (hn : xs.length ≤ 100000000000) (hs : ∀ y ∈ xs, 0 ≤ y ∧ y ≤ 9223372036854775807) (k : Nat) (hk : 2 * xs.length + 20 < k) :
    ∃ ys, nat_number_carry.f k xs = some ys ∧ bv BB ys = bv BB xs ∧ Canon ys ∧ ys.length ≤ xs.length + 2 := by
  obtain ⟨ys, e1, e2, e3, e4⟩ := l0_eq xs [] k 0 (by omega) (by omega) (by simpa using hn) (by simpa using hk) (by simp) hs
  refine ⟨ys, ?_, by simpa using e2, e3, by simpa using e4⟩
  simpa [nat_number_carry.f] using e1
end Go.Proofs.YtfndkpifgmcomaaDoor.Q
end
section
namespace Go.Proofs.YtfndkpifgmcomaaDoor.Q
open Go Go.RowKit Go.Proofs.YtfndkpifgmcomaaDoor.XD Go.Proofs.YtfndkpifgmcomaaDoorW.PrintWords Go.Proofs.YtfndkpifgmcomaaDoorW.PrintLast Go.Proofs.YtfndkpifgmcomaaDoorW.PrintMore
set_option linter.unusedVariables false
theorem and_ones (a k : Nat) (ha : a < 18446744073709551616) (hk : k ≤ 64) : Go.bits .and .u64 (a : Int) ((2 ^ k - 1 : Nat) : Int) = ((a % 2 ^ k : Nat) : Int) := by
  have h1 : (2 : Nat) ^ k ≤ 2 ^ 64 := Nat.pow_le_pow_right (by omega) hk
  have h2 : (2 : Nat) ^ 64 = 18446744073709551616 := rfl
  rw [bits_and_u64_nat _ _ ha (by omega), Nat.and_two_pow_sub_one_eq_mod]
theorem or_apart (a b k : Nat) (hb : b < 2 ^ k) (ha : 2 ^ k * a < 18446744073709551616) (hk : k ≤ 64) : Go.bits .or .u64 ((2 ^ k * a : Nat) : Int) (b : Int) = ((2 ^ k * a + b : Nat) : Int) := by
  have h1 : (2 : Nat) ^ k ≤ 2 ^ 64 := Nat.pow_le_pow_right (by omega) hk
  have h2 : (2 : Nat) ^ 64 = 18446744073709551616 := rfl
  rw [bits_or_u64_nat _ _ ha (by omega), Nat.two_pow_add_eq_or_of_lt hb]
theorem shr_nat (a c : Nat) (hc : c ≤ 64) : shr .u64 (a : Int) (c : Int) = ((a / 2 ^ c : Nat) : Int) := by
  unfold shr
  have e : min ((c : Int)).toNat IntKind.u64.bits = c := by
    show min ((c : Int)).toNat 64 = c
    omega
  rw [e, Int.natCast_ediv, Int.natCast_pow]
  rfl
theorem shl_nat (a c : Nat) (hc : c ≤ 64) (h : a * 2 ^ c < 18446744073709551616) : shl .u64 (a : Int) (c : Int) = ((a * 2 ^ c : Nat) : Int) := by
  unfold shl
  have e : min ((c : Int)).toNat IntKind.u64.bits = c := by
    show min ((c : Int)).toNat 64 = c
    omega
  have e2 : (a : Int) * 2 ^ c = ((a * 2 ^ c : Nat) : Int) := by rw [Int.natCast_mul, Int.natCast_pow]; rfl
  rw [e, e2, wu (by omega) (by omega)]
theorem shl1_i64 (c : Nat) (hc : c ≤ 62) : shl .i64 1 (c : Int) = ((2 ^ c : Nat) : Int) := by
  unfold shl
  have e : min ((c : Int)).toNat IntKind.i64.bits = c := by
    show min ((c : Int)).toNat 64 = c
    omega
  have h1 : (2 : Nat) ^ c ≤ 2 ^ 62 := Nat.pow_le_pow_right (by omega) hc
  have h2 : (2 : Nat) ^ 62 = 4611686018427387904 := rfl
  have e2 : (1 : Int) * 2 ^ c = ((2 ^ c : Nat) : Int) := by rw [Int.one_mul, Int.natCast_pow]; rfl
  have e3 : ∀ x : Int, IntKind.i64.wrap x = wrap64 x := fun x => i64_w x
  rw [e, e2, e3]
  generalize (2 : Nat) ^ c = P at h1
  rw [w64 (by omega) (by omega)]
theorem and_i64 (a k : Nat) (ha : a < 9223372036854775808) (hk : k ≤ 62) : Go.bits .and .i64 (a : Int) ((2 ^ k - 1 : Nat) : Int) = ((a % 2 ^ k : Nat) : Int) := by
  have h1 : (2 : Nat) ^ k ≤ 2 ^ 62 := Nat.pow_le_pow_right (by omega) hk
  have h2 : (2 : Nat) ^ 62 = 4611686018427387904 := rfl
  have g1 : (BitVec.ofInt 64 (a : Int)).toNat = a := by
    rw [BitVec.ofInt_natCast, BitVec.toNat_ofNat]; exact Nat.mod_eq_of_lt (by omega)
  have g2 : (BitVec.ofInt 64 ((2 ^ k - 1 : Nat) : Int)).toNat = 2 ^ k - 1 := by
    rw [BitVec.ofInt_natCast, BitVec.toNat_ofNat]; exact Nat.mod_eq_of_lt (by omega)
  show IntKind.i64.wrap ((BitVec.ofInt 64 (a : Int) &&& BitVec.ofInt 64 ((2 ^ k - 1 : Nat) : Int)).toNat : Int) = _
  have hm : a % 2 ^ k < 2 ^ k := Nat.mod_lt _ (Nat.pow_pos (by omega))
  rw [BitVec.toNat_and, g1, g2, Nat.and_two_pow_sub_one_eq_mod, i64_w, w64 (by omega) (by omega)]
theorem parts_eq (W E F n : Nat) (hn : n < 18446744073709551616) (hE : 1 ≤ E) (hEF : E + F ≤ 63) (hF : 1 ≤ F) (hE2 : E ≤ 62) :
    flt_format_parts.f (W : Int) (E : Int) (F : Int) (n : Int) = some (((n / 2 ^ (E + F) : Nat) : Int), ((n / 2 ^ F % 2 ^ E : Nat) : Int), ((n % 2 ^ F : Nat) : Int)) := by
  unfold flt_format_parts.f flt_format_top.f
  have hp : (2 : Nat) ^ E ≤ 2 ^ 62 := Nat.pow_le_pow_right (by omega) hE2
  have hpf : (2 : Nat) ^ F ≤ 2 ^ 63 := Nat.pow_le_pow_right (by omega) (by omega)
  have hp0 : 0 < (2 : Nat) ^ E := Nat.pow_pos (by omega)
  have hf0 : 0 < (2 : Nat) ^ F := Nat.pow_pos (by omega)
  have h2 : (2 : Nat) ^ 62 = 4611686018427387904 := rfl
  have h3 : (2 : Nat) ^ 63 = 9223372036854775808 := rfl
  have hd : n / 2 ^ F < 9223372036854775808 := by
    have h4 : (2 : Nat) ^ 1 ≤ 2 ^ F := Nat.pow_le_pow_right (by omega) hF
    have h5 : n / 2 ^ F ≤ n / 2 ^ 1 := Nat.div_le_div_left h4 (by decide)
    have h6 : (2 : Nat) ^ 1 = 2 := rfl
    rw [h6] at h5
    omega
  have hw3 : wrap64 ((n / 2 ^ F : Nat) : Int) = ((n / 2 ^ F : Nat) : Int) := by
    generalize n / 2 ^ F = D at hd
    exact w64 (by omega) (by omega)
  rw [show (E : Int) + (F : Int) = ((E + F : Nat) : Int) from by omega, w64 (x := ((E + F : Nat) : Int)) (by omega) (by omega), if_pos (by omega), if_pos (by omega), if_pos (by omega), Option.bind_some]
  rw [shl1_i64 E (by omega), w64 (x := ((2 ^ E : Nat) : Int) - 1) (by omega) (by omega), shr_nat n (E + F) (by omega), shr_nat n F (by omega), hw3]
  rw [show ((2 ^ E : Nat) : Int) - 1 = ((2 ^ E - 1 : Nat) : Int) from by omega, and_i64 _ E hd hE2]
  have e1 := shl_nat 1 F (by omega) (by omega)
  rw [show ((1 : Nat) : Int) = 1 from rfl, Nat.one_mul] at e1
  have e2 : IntKind.u64.wrap (((2 ^ F : Nat) : Int) - 1) = ((2 ^ F - 1 : Nat) : Int) := by
    generalize (2 : Nat) ^ F = P at hpf hf0
    rw [wu (by omega) (by omega)]
    omega
  rw [e1, e2, and_ones n F hn (by omega)]
theorem join_eq (W E F s x f : Nat) (hEF : E + F ≤ 63) (hx : x < 2 ^ E) (hf : f < 2 ^ F) (hs : 2 ^ (E + F) * s + 2 ^ (E + F) ≤ 18446744073709551616) :
    flt_format_join.f (W : Int) (E : Int) (F : Int) (s : Int) (x : Int) (f : Int) = some ((2 ^ (E + F) * s + 2 ^ F * x + f : Nat) : Int) := by
  unfold flt_format_join.f
  have hxy : 2 ^ F * (x + 1) ≤ 2 ^ F * 2 ^ E := Nat.mul_le_mul_left _ hx
  rw [← Nat.pow_add, Nat.add_comm F E, Nat.mul_add, Nat.mul_one] at hxy
  rw [show (E : Int) + (F : Int) = ((E + F : Nat) : Int) from by omega, w64 (x := ((E + F : Nat) : Int)) (by omega) (by omega), if_pos (by omega), if_pos (by omega)]
  have hx64 : x < 18446744073709551616 := by
    have : (2 : Nat) ^ E ≤ 2 ^ 63 := Nat.pow_le_pow_right (by omega) (by omega)
    have h3 : (2 : Nat) ^ 63 = 9223372036854775808 := rfl
    omega
  rw [wu (x := (x : Int)) (by omega) (by omega), shl_nat s (E + F) (by omega) (by rw [Nat.mul_comm]; omega), shl_nat x F (by omega) (by rw [Nat.mul_comm]; omega)]
  rw [Nat.mul_comm s, Nat.mul_comm x, or_apart s (2 ^ F * x) (E + F) (by omega) (by omega) (by omega)]
  have e2 : 2 ^ (E + F) * s + 2 ^ F * x = 2 ^ F * (2 ^ E * s + x) := by rw [Nat.mul_add, ← Nat.mul_assoc, ← Nat.pow_add, Nat.add_comm F E]
  rw [e2, or_apart (2 ^ E * s + x) f F hf (by rw [← e2]; omega) (by omega)]
end Go.Proofs.YtfndkpifgmcomaaDoor.Q
end
section
namespace Go.Proofs.YtfndkpifgmcomaaDoor.Q
open Go.RowKit Go.Proofs.YtfndkpifgmcomaaDoor.XD Go.Proofs.YtfndkpifgmcomaaDoorW.PrintWords Go.Proofs.YtfndkpifgmcomaaDoorW.PrintLast Go.Proofs.YtfndkpifgmcomaaDoorW.PrintMore
open Go.Proofs.YtfndkpifgmcomaaDoor.QNum (bv bv_append bv_set bv_nonneg bv_replicate)
set_option linter.unusedVariables false
def Lim (xs : List Int) : Prop := ∀ y ∈ xs, 0 ≤ y ∧ y ≤ 999999999
theorem lim_getD {xs : List Int} (h : Lim xs) (i : Nat) : 0 ≤ xs.getD i 0 ∧ xs.getD i 0 ≤ 999999999 := by
  rw [List.getD_eq_getElem?_getD]
  rcases Nat.lt_or_ge i xs.length with hi | hi
  · rw [List.getElem?_eq_getElem hi]
    exact h _ (List.getElem_mem hi)
  · rw [List.getElem?_eq_none hi]
    exact ⟨by simp, by simp⟩
theorem lim_set {xs : List Int} (h : Lim xs) (i : Nat) (v : Int) (h0 : 0 ≤ v) (h1 : v ≤ 999999999) : Lim (xs.set i v) := by
  intro y hy
  rcases List.mem_or_eq_of_mem_set hy with hy | rfl
  · exact h y hy
  · exact ⟨h0, h1⟩
theorem getD_set' (x : List Int) (i t : Nat) (v : Int) (hi : i < x.length) : (x.set i v).getD t 0 = if t = i then v else x.getD t 0 := by
  simp only [List.getD_eq_getElem?_getD, List.getElem?_set]
  by_cases h : i = t
  · subst h; simp [hi]
  · simp [h, Ne.symm h]
theorem bv_take_succ (B : Int) (ys : List Int) (k : Nat) (hk : k < ys.length) : bv B (ys.take (k + 1)) = bv B (ys.take k) + B ^ k * ys.getD k 0 := by
  rw [List.take_succ_eq_append_getElem hk, bv_append, List.length_take, Nat.min_eq_left (by omega)]
  simp [bv, List.getD_eq_getElem?_getD, List.getElem?_eq_getElem hk]
theorem inner (xs ys : List Int) (i : Nat) (x : Int) (hx0 : 0 ≤ x) (hx1 : x ≤ 999999999) (hy : Lim ys) (hi : i + ys.length ≤ 1000000) :
    ∀ (d k kk : Nat) (out : List Int) (o : Int), ys.length - kk = d → kk ≤ ys.length → Lim out → 0 ≤ o → o ≤ 999999999 → i + ys.length < out.length →
    ∃ out2 o2, nat_number_times.l1 (k + d + 1) ys i x o out xs (xs.length : Int) i ys (ys.length : Int) kk = nat_number_times.l0 k ys (out2.set (i + ys.length) (IntKind.u64.wrap (out2.getD (i + ys.length) 0 + o2))) xs (xs.length : Int) (((i + 1 : Nat)) : Int) ∧
      Lim out2 ∧ out2.length = out.length ∧ 0 ≤ o2 ∧ o2 ≤ 999999999 ∧ (∀ j, i + ys.length ≤ j → out2.getD j 0 = out.getD j 0) ∧
      bv BB out2 + BB ^ (i + ys.length) * o2 = bv BB out + BB ^ (i + kk) * o + BB ^ i * (x * (bv BB ys - bv BB (ys.take kk))) := by
  intro d
  induction d with
  | zero =>
    intro k kk out o hd hk ho h0 h1 hl
    obtain rfl : kk = ys.length := by omega
    refine ⟨out, o, ?_, ho, rfl, h0, h1, fun j _ => rfl, by rw [List.take_length]; simp⟩
    simp only [nat_number_times.l1, Nat.add_zero]
    rw [if_neg (by omega)]
    have e : (i : Int) + (ys.length : Int) = ((i + ys.length : Nat) : Int) := by omega
    rw [e, w64 (by omega) (by omega), if_pos (by omega), if_pos (by omega), w64 (x := (i : Int) + 1) (by omega) (by omega)]
    congr 1
  | succ d ih =>
    intro k kk out o hd hk ho h0 h1 hl
    have hklt : kk < ys.length := by omega
    have hyk := lim_getD hy kk
    have hok := lim_getD ho (i + kk)
    have hxy0 : 0 ≤ x * ys.getD kk 0 := Int.mul_nonneg hx0 hyk.1
    have hxy1 : x * ys.getD kk 0 ≤ 999999999 * 999999999 := Int.mul_le_mul hx1 hyk.2 hyk.1 (by omega)
    have hu : nat_number_times.l1 (k + (d + 1) + 1) ys i x o out xs (xs.length : Int) i ys (ys.length : Int) kk =
        nat_number_times.l1 (k + d + 1) ys i x ((out.getD (i + kk) 0 + x * ys.getD kk 0 + o) / 1000000000) (out.set (i + kk) ((out.getD (i + kk) 0 + x * ys.getD kk 0 + o) % 1000000000)) xs (xs.length : Int) i ys (ys.length : Int) ((kk + 1 : Nat) : Int) := by
      rw [show k + (d + 1) + 1 = (k + d + 1) + 1 from by omega]
      generalize k + d + 1 = K
      conv => lhs; rw [nat_number_times.l1]
      have e : (i : Int) + (kk : Int) = ((i + kk : Nat) : Int) := by omega
      rw [if_pos (by omega), if_pos (by omega), if_pos (by omega), e, w64 (by omega) (by omega), if_pos (by omega), if_pos (by omega)]
      have r1 : rd ys (kk : Int) = ys.getD kk 0 := rfl
      have r2 : rd out ((i + kk : Nat) : Int) = out.getD (i + kk) 0 := rfl
      rw [r1, r2, wu hxy0 (by omega), wu (x := out.getD (i + kk) 0 + x * ys.getD kk 0) (by omega) (by omega), wu (x := out.getD (i + kk) 0 + x * ys.getD kk 0 + o) (by omega) (by omega), tdiv_ (by omega), tmod_ (by omega), wu (x := (out.getD (i + kk) 0 + x * ys.getD kk 0 + o) / 1000000000) (by omega) (by omega), w64 (x := (kk : Int) + 1) (by omega) (by omega)]
      rfl
    have ho1 : 0 ≤ (out.getD (i + kk) 0 + x * ys.getD kk 0 + o) / 1000000000 := by omega
    have ho2 : (out.getD (i + kk) 0 + x * ys.getD kk 0 + o) / 1000000000 ≤ 999999999 := by omega
    obtain ⟨out2, o2, e1, e2, e3, e4, e5, e6, e7⟩ := ih k (kk + 1) (out.set (i + kk) ((out.getD (i + kk) 0 + x * ys.getD kk 0 + o) % 1000000000)) ((out.getD (i + kk) 0 + x * ys.getD kk 0 + o) / 1000000000) (by omega) (by omega) (lim_set ho _ _ (by omega) (by omega)) ho1 ho2 (by rw [List.length_set]; exact hl)
    refine ⟨out2, o2, by rw [hu, e1], e2, by rw [e3, List.length_set], e4, e5, fun j hj => ?_, ?_⟩
    · rw [e6 j hj, getD_set' _ _ _ _ (by omega), if_neg (by omega)]
    · rw [e7, bv_set _ _ _ _ (by omega), bv_take_succ _ _ _ hklt]
      have h3 : (out.getD (i + kk) 0 + x * ys.getD kk 0 + o) % 1000000000 + 1000000000 * ((out.getD (i + kk) 0 + x * ys.getD kk 0 + o) / 1000000000) = out.getD (i + kk) 0 + x * ys.getD kk 0 + o := by omega
      generalize (out.getD (i + kk) 0 + x * ys.getD kk 0 + o) % 1000000000 = r at *
      generalize (out.getD (i + kk) 0 + x * ys.getD kk 0 + o) / 1000000000 = q at *
      rw [show i + (kk + 1) = (i + kk) + 1 from by omega, Int.pow_succ, Int.pow_add]
      have h5 : r = out.getD (i + kk) 0 + x * ys.getD kk 0 + o - BB * q := by unfold BB; omega
      rw [h5]
      grind
theorem outer (xs ys : List Int) (hx : Lim xs) (hy : Lim ys) (hn : xs.length + ys.length ≤ 100000) :
    ∀ (d k i : Nat) (out : List Int), xs.length - i = d → i ≤ xs.length → Lim out → out.length = xs.length + ys.length → (∀ j, i + ys.length ≤ j → out.getD j 0 = 0) → (ys.length + 2) * d + 400000 < k →
    ∃ r, nat_number_times.l0 k ys out xs (xs.length : Int) i = some r ∧ Canon r ∧ bv BB r = bv BB out + (bv BB xs - bv BB (xs.take i)) * bv BB ys ∧ r.length ≤ xs.length + ys.length + 2 := by
  intro d
  induction d with
  | zero =>
    intro k i out hd hi ho hl hz hk
    obtain rfl : i = xs.length := by omega
    obtain ⟨k, rfl⟩ : ∃ q, k = q + 1 := ⟨k - 1, by omega⟩
    simp only [nat_number_times.l0]
    rw [if_neg (by omega)]
    obtain ⟨r, e1, e2, e3, e4⟩ := carry_eq out (by omega) (fun y hy => by have := ho y hy; omega) k (by omega)
    rw [e1]
    exact ⟨r, rfl, e3, by rw [e2, List.take_length]; simp, by omega⟩
  | succ d ih =>
    intro k i out hd hi ho hl hz hk
    have hilt : i < xs.length := by omega
    have hxi := lim_getD hx i
    rw [Nat.mul_succ] at hk
    obtain ⟨q, rfl⟩ : ∃ q, k = (q + ys.length + 1) + 1 := ⟨k - ys.length - 2, by omega⟩
    simp only [nat_number_times.l0]
    rw [if_pos (by omega), if_pos (by omega), if_pos (by omega)]
    have r1 : rd xs (i : Int) = xs.getD i 0 := rfl
    rw [r1]
    obtain ⟨out2, o2, e1, e2, e3, e4, e5, e6, e7⟩ := inner xs ys i (xs.getD i 0) hxi.1 hxi.2 hy (by omega) ys.length q 0 out 0 (by omega) (by omega) ho (by omega) (by omega) (by omega)
    have hz2 : out2.getD (i + ys.length) 0 = 0 := by rw [e6 _ (Nat.le_refl _)]; exact hz _ (Nat.le_refl _)
    rw [show ((0 : Nat) : Int) = 0 from rfl] at e1
    rw [e1, hz2, wu (by omega) (by omega)]
    obtain ⟨r, f1, f2, f3, f4⟩ := ih q (i + 1) (out2.set (i + ys.length) (0 + o2)) (by omega) (by omega) (lim_set e2 _ _ (by omega) (by omega)) (by rw [List.length_set]; omega) (fun j hj => by
      rw [getD_set' _ _ _ _ (by omega), if_neg (by omega), e6 j (by omega)]
      exact hz j (by omega)) (by omega)
    refine ⟨r, f1, f2, ?_, f4⟩
    rw [f3, bv_set _ _ _ _ (by omega), hz2, bv_take_succ _ _ _ hilt]
    simp only [List.take_zero, bv, Nat.add_zero] at e7
    grind
theorem times_eq (xs ys : List Int) (hx : Lim xs) (hy : Lim ys) (hn : xs.length + ys.length ≤ 1000) (k : Nat) (hk : 2000000 < k) :
    ∃ r, nat_number_times.f k xs ys = some r ∧ Canon r ∧ bv BB r = bv BB xs * bv BB ys ∧ r.length ≤ xs.length + ys.length + 2 := by
  unfold nat_number_times.f
  rw [show (xs.length : Int) + (ys.length : Int) = ((xs.length + ys.length : Nat) : Int) from by omega, w64 (by omega) (by omega), if_pos (by omega), if_pos (by omega)]
  have h1 : (ys.length + 2) * xs.length ≤ 1002 * 1000 := Nat.mul_le_mul (by omega) (by omega)
  obtain ⟨r, e1, e2, e3, e4⟩ := outer xs ys hx hy (by omega) xs.length k 0 (List.replicate (xs.length + ys.length) 0) (by omega) (by omega) (fun y hy => by rw [List.eq_of_mem_replicate hy]; omega) (by simp) (fun j _ => by
    rw [List.getD_eq_getElem?_getD, List.getElem?_replicate]
    split <;> rfl) (by omega)
  refine ⟨r, ?_, e2, ?_, e4⟩
  · rw [← e1]; rfl
  · rw [e3, bv_replicate]; simp [bv]
end Go.Proofs.YtfndkpifgmcomaaDoor.Q
end
section
namespace Go.Proofs.YtfndkpifgmcomaaDoor.Q
open Go.RowKit Go.Proofs.YtfndkpifgmcomaaDoor.XD Go.Proofs.YtfndkpifgmcomaaDoorW.PrintWords Go.Proofs.YtfndkpifgmcomaaDoorW.PrintLast Go.Proofs.YtfndkpifgmcomaaDoorW.PrintMore
open Go.Proofs.YtfndkpifgmcomaaDoor.QNum (bv bv_append bv_set bv_nonneg bv_replicate vN vN_snoc vN_append isNum isNum_iff decN decN_lt decN_ge decN_vN num_eq decN_isNum vN_decN decN_ne decN_head vN_lt decN_len vN_zeros)
set_option linter.unusedVariables false
theorem dec10F_eq : ∀ (f n : Nat), n < 10 ^ (f + 1) → dec10F (f + 1) n = decN n := by
  intro f
  induction f with
  | zero => intro n hn; rw [dec10F, if_pos (by simpa using hn), decN_lt (by simpa using hn)]
  | succ f ih =>
    intro n hn
    rw [dec10F]
    by_cases h : n < 10
    · rw [if_pos h, decN_lt h]
    · rw [if_neg h, decN_ge h, ih (n / 10) (by rw [Nat.pow_succ] at hn; omega)]
theorem dec10_decN (n : Nat) (h : n < 100000000000000000000) : dec10 n = decN n := dec10F_eq 19 n (by omega)
theorem BBpow_pos (n : Nat) : 0 < BB ^ n := Int.pow_pos (by unfold BB; omega)
theorem canon_tail {x : Int} {ys : List Int} (h : Canon (x :: ys)) : Canon ys := ⟨fun y hy => h.small y (List.mem_cons_of_mem _ hy), fun q c e => h.top (x :: q) c (by rw [e]; rfl)⟩
theorem canon_pos : ∀ (ys : List Int), Canon ys → ys ≠ [] → 0 < bv BB ys
  | [], _, h => absurd rfl h
  | [x], h, _ => by
    have h1 := h.small x (by simp)
    have h2 := h.top [] x rfl
    simp only [bv]
    omega
  | x :: y :: ys, h, _ => by
    have h1 := canon_pos (y :: ys) (canon_tail h) (by simp)
    have h2 := h.small x (by simp)
    have : bv BB (x :: y :: ys) = x + BB * bv BB (y :: ys) := rfl
    rw [this]
    unfold BB at *
    omega
theorem digL_eq : ∀ (ys : List Int), Canon ys → ys ≠ [] → digL ys.reverse = decN (bv BB ys).toNat
  | [], _, h => absurd rfl h
  | [x], h, _ => by
    have h1 := h.small x (by simp)
    simp only [List.reverse_singleton, digL, List.foldl_cons, List.foldl_nil, digStep, List.nil_append, if_true, bv, Int.mul_zero, Int.add_zero]
    exact dec10_decN _ (by omega)
  | x :: y :: ys, h, _ => by
    have hp := canon_pos (y :: ys) (canon_tail h) (by simp)
    have ih := digL_eq (y :: ys) (canon_tail h) (by simp)
    have h1 := h.small x (by simp)
    have e : digL (x :: y :: ys).reverse = digStep (digL (y :: ys).reverse) x := by rw [List.reverse_cons, digL_snoc]
    rw [e, ih]
    generalize hv : (bv BB (y :: ys)).toNat = v
    have hv0 : v ≠ 0 := by omega
    unfold digStep
    rw [if_neg (decN_ne v), dec10_decN _ (by omega)]
    have hx := ((isNum_iff _).1 (decN_isNum x.toNat)).1
    have hl := decN_len x.toNat 9 (by omega) (by omega)
    refine num_eq ((isNum_iff _).2 ⟨fun c hc => ?_, by simp [decN_ne v], .inr ?_⟩) ?_
    · rcases List.mem_append.1 hc with hc | hc
      · exact ((isNum_iff _).1 (decN_isNum v)).1 c hc
      · rcases List.mem_append.1 hc with hc | hc
        · rw [List.eq_of_mem_replicate hc]; decide
        · exact hx c hc
    · obtain ⟨d, q, e2⟩ := List.exists_cons_of_ne_nil (decN_ne v)
      have := decN_head v hv0
      rw [e2] at this ⊢
      exact this
    · rw [vN_append _ 9 _ (by rw [List.length_append, List.length_replicate]; omega), vN_zeros, vN_decN, vN_decN]
      have : bv BB (x :: y :: ys) = x + BB * bv BB (y :: ys) := rfl
      rw [this]
      unfold BB at *
      omega
theorem digits_eq (ys : List Int) (h : Canon ys) (hl : ys.length ≤ 1000000) : nat_number_digits.f ys = some ⟨(decN (bv BB ys).toNat).toArray⟩ := by
  unfold nat_number_digits.f
  rw [if_pos ⟨by
    rw [List.all_eq_true]
    intro x hx
    have := h.small x hx
    simp [okLimb]; omega, hl⟩]
  by_cases hz : ys = []
  · rw [if_pos hz, hz]
    simp only [bv]
    rw [decN_lt (by simp)]
    rfl
  · rw [if_neg hz, digL_eq ys h hz]
theorem val_vN (l : List UInt8) (h : l.all XD.isDig = true) : val l = (vN l : Int) := by
  suffices ∀ (n : Nat) (l : List UInt8), l.length = n → l.all XD.isDig = true → val l = (vN l : Int) from this _ l rfl h
  intro n
  induction n with
  | zero => intro l hl _; obtain rfl := List.eq_nil_of_length_eq_zero hl; rfl
  | succ n ih =>
    intro l hl ha
    have hne : l ≠ [] := by intro e; simp [e] at hl
    obtain ⟨q, c, rfl⟩ : ∃ q c, l = q ++ [c] := ⟨l.dropLast, l.getLast hne, (List.dropLast_concat_getLast hne).symm⟩
    rw [List.all_append] at ha
    simp only [Bool.and_eq_true] at ha
    have hc := (XD.isDig_iff c).1 (by simpa using ha.2)
    rw [val_snoc, vN_snoc, ih q (by simpa using hl) ha.1]
    omega
theorem readL_eq : ∀ (k : Nat) (l : List UInt8) (n : List Int), l.all XD.isDig = true → l.length < k → (∀ x ∈ n, 0 ≤ x ∧ x ≤ 999999999) →
    bv BB (readL k l n) = bv BB n + BB ^ n.length * (vN l : Int) ∧ (∀ x ∈ readL k l n, 0 ≤ x ∧ x ≤ 999999999) ∧ (readL k l n).length * 9 ≤ n.length * 9 + l.length + 8 := by
  intro k
  induction k with
  | zero => intro l n _ h; omega
  | succ k ih =>
    intro l n ha hl hn
    by_cases hz : l = []
    · subst hz
      simp only [readL, if_true]
      exact ⟨by simp [vN], hn, by simp⟩
    · rw [readL_step k l n hz]
      have hpos : 0 < l.length := List.length_pos_iff.2 hz
      obtain ⟨h1, h2, h3⟩ := ih (l.take (l.length - 9)) (n ++ [val (l.drop (l.length - 9))]) (all_take _ _ ha) (by rw [List.length_take]; omega) (by
        intro x hx
        rcases List.mem_append.1 hx with hx | hx
        · exact hn x hx
        · obtain rfl : x = val (l.drop (l.length - 9)) := by simpa using hx
          exact val_small _ (by rw [List.length_drop]; omega) (all_drop _ _ ha))
      refine ⟨?_, h2, ?_⟩
      · rw [h1, bv_append, List.length_append, List.length_singleton, Int.pow_succ]
        simp only [bv, Int.mul_zero, Int.add_zero]
        rw [val_vN _ (all_drop _ _ ha)]
        have hv : vN l = vN (l.take (l.length - 9)) * 10 ^ (l.length - (l.length - 9)) + vN (l.drop (l.length - 9)) := by
          conv => lhs; rw [← List.take_append_drop (l.length - 9) l]
          exact vN_append _ _ _ (by rw [List.length_drop])
        by_cases h9 : 9 ≤ l.length
        · rw [show l.length - (l.length - 9) = 9 from by omega] at hv
          rw [hv]
          have h10 : (((10 ^ 9 : Nat)) : Int) = BB := by unfold BB; rfl
          rw [Int.natCast_add, Int.natCast_mul, h10]
          grind
        · have e0 : l.length - 9 = 0 := by omega
          rw [e0] at hv ⊢
          simp only [List.take_zero, List.drop_zero]
          have : vN ([] : List UInt8) = 0 := rfl
          rw [this]
          rw [Int.natCast_zero, Int.mul_zero, Int.add_zero]
      · rw [List.length_append, List.length_singleton, List.length_take] at h3
        omega
theorem read_eq (s : ByteArray) (ha : s.data.toList.all XD.isDig = true) (hs : s.size ≤ 1000000) :
    ∃ xs, nat_read.f s = some xs ∧ bv BB xs = (vN s.data.toList : Int) ∧ (∀ x ∈ xs, 0 ≤ x ∧ x ≤ 999999999) ∧ xs.length * 9 ≤ s.size + 8 := by
  obtain ⟨h1, h2, h3⟩ := readL_eq (s.size + 1) s.data.toList [] ha (by rw [lsize]; omega) (by simp)
  refine ⟨_, by unfold nat_read.f; rw [if_pos ⟨ha, by omega⟩], by rw [h1]; simp [bv], h2, ?_⟩
  rw [lsize] at h3
  simpa using h3
end Go.Proofs.YtfndkpifgmcomaaDoor.Q
end
section
namespace Go.Proofs.YtfndkpifgmcomaaDoor.Q
open Go Go.RowKit Go.Proofs.YtfndkpifgmcomaaDoor.XD Go.Proofs.YtfndkpifgmcomaaDoorW.PrintWords Go.Proofs.YtfndkpifgmcomaaDoorW.PrintLast Go.Proofs.YtfndkpifgmcomaaDoorW.PrintMore
set_option linter.unusedVariables false
theorem ones_wrap (E : Nat) (hE : E ≤ 62) : IntKind.u64.wrap (shl .u64 1 (E : Int) - 1) = ((2 ^ E - 1 : Nat) : Int) := by
  have hpE : (2 : Nat) ^ E ≤ 2 ^ 62 := Nat.pow_le_pow_right (by omega) (by omega)
  have hp0 : 0 < (2 : Nat) ^ E := Nat.pow_pos (by omega)
  have h2 : (2 : Nat) ^ 62 = 4611686018427387904 := rfl
  have e1 := shl_nat 1 E (by omega) (by omega)
  rw [show ((1 : Nat) : Int) = 1 from rfl, Nat.one_mul] at e1
  rw [e1]
  generalize (2 : Nat) ^ E = P at hpE hp0
  rw [wu (by omega) (by omega)]
  omega
end Go.Proofs.YtfndkpifgmcomaaDoor.Q
end
