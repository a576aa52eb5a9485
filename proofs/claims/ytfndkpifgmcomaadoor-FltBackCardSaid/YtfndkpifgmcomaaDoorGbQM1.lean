/- Part of this claim: QNum. -/
import Derived.Lib.Strings
namespace Go.Proofs.YtfndkpifgmcomaaDoor.QNum
set_option linter.unusedVariables false
def bv (B : Int) : List Int → Int
  | [] => 0
  | x :: xs => x + B * bv B xs
theorem bv_append (B : Int) : ∀ (xs ys : List Int), bv B (xs ++ ys) = bv B xs + B ^ xs.length * bv B ys
  | [], ys => by simp [bv]
  | x :: xs, ys => by
    simp only [List.cons_append, bv, bv_append B xs ys, List.length_cons]
    rw [Int.pow_succ]
    grind
theorem bv_set (B : Int) : ∀ (xs : List Int) (i : Nat) (v : Int), i < xs.length → bv B (xs.set i v) = bv B xs + B ^ i * (v - xs.getD i 0)
  | [], i, v, h => by simp at h
  | x :: xs, 0, v, h => by simp [bv]; grind
  | x :: xs, i + 1, v, h => by
    have := bv_set B xs i v (by simpa using h)
    simp only [List.set_cons_succ, bv, this]
    rw [Int.pow_succ]
    simp only [List.getD_cons_succ]
    grind
theorem bv_nonneg (B : Int) (hB : 0 ≤ B) : ∀ (xs : List Int), (∀ x ∈ xs, 0 ≤ x) → 0 ≤ bv B xs
  | [], _ => by simp [bv]
  | x :: xs, h => by
    have h1 := bv_nonneg B hB xs (fun y hy => h y (List.mem_cons_of_mem _ hy))
    have h2 := h x List.mem_cons_self
    simp only [bv]
    have := Int.mul_nonneg hB h1
    omega
theorem bv_replicate (B : Int) : ∀ n, bv B (List.replicate n 0) = 0
  | 0 => rfl
  | n + 1 => by simp [List.replicate_succ, bv, bv_replicate B n]
def isDig (c : UInt8) : Bool := decide (48 ≤ c.toNat) && decide (c.toNat ≤ 57)
theorem isDig_iff (c : UInt8) : isDig c = true ↔ 48 ≤ c.toNat ∧ c.toNat ≤ 57 := by simp [isDig]
def vN (l : List UInt8) : Nat := l.foldl (fun x c => x * 10 + (c.toNat - 48)) 0
theorem vN_snoc (l : List UInt8) (c : UInt8) : vN (l ++ [c]) = vN l * 10 + (c.toNat - 48) := by simp [vN, List.foldl_append]
theorem vN_append (a : List UInt8) : ∀ (n : Nat) (b : List UInt8), b.length = n → vN (a ++ b) = vN a * 10 ^ n + vN b := by
  intro n
  induction n with
  | zero =>
    intro b hb
    obtain rfl := List.eq_nil_of_length_eq_zero hb
    simp [vN]
  | succ n ih =>
    intro b hb
    have hne : b ≠ [] := by intro e; simp [e] at hb
    obtain ⟨q, c, rfl⟩ : ∃ q c, b = q ++ [c] := ⟨b.dropLast, b.getLast hne, (List.dropLast_concat_getLast hne).symm⟩
    rw [← List.append_assoc, vN_snoc, vN_snoc, ih q (by simpa using hb), Nat.pow_succ]
    grind
def isNum (l : List UInt8) : Bool := l.all isDig && !l.isEmpty && (decide (l.length = 1) || decide (l.head? ≠ some 48))
theorem isNum_iff (l : List UInt8) : isNum l = true ↔ (∀ c ∈ l, isDig c = true) ∧ l ≠ [] ∧ (l.length = 1 ∨ l.head? ≠ some 48) := by
  simp [isNum, List.all_eq_true, and_assoc]
def decN (n : Nat) : List UInt8 := if h : n < 10 then [UInt8.ofNat (48 + n)] else decN (n / 10) ++ [UInt8.ofNat (48 + n % 10)]
theorem decN_lt {n : Nat} (h : n < 10) : decN n = [UInt8.ofNat (48 + n)] := by rw [decN]; simp [h]
theorem decN_ge {n : Nat} (h : ¬ n < 10) : decN n = decN (n / 10) ++ [UInt8.ofNat (48 + n % 10)] := by rw [decN]; simp [h]
theorem ofNat_toNat (d : Nat) (h : d < 10) : (UInt8.ofNat (48 + d)).toNat = 48 + d := by simp; omega
theorem ofNat_dig (c : UInt8) (h : isDig c = true) : UInt8.ofNat (48 + (c.toNat - 48)) = c := by
  have := (isDig_iff c).1 h
  rw [show 48 + (c.toNat - 48) = c.toNat from by omega]
  simp
theorem vN_pos : ∀ (n : Nat) (l : List UInt8), l.length = n → (∀ c ∈ l, isDig c = true) → l ≠ [] → l.head? ≠ some 48 → 0 < vN l := by
  intro n
  induction n with
  | zero => intro l hl _ hne; exact absurd (List.eq_nil_of_length_eq_zero hl) hne
  | succ n ih =>
    intro l hl hd hne hh
    obtain ⟨q, c, rfl⟩ : ∃ q c, l = q ++ [c] := ⟨l.dropLast, l.getLast hne, (List.dropLast_concat_getLast hne).symm⟩
    rw [vN_snoc]
    rcases q with _ | ⟨d, q⟩
    · have hc := (isDig_iff c).1 (hd c (by simp))
      have : c ≠ 48 := by simpa using hh
      have : c.toNat ≠ 48 := by intro e; exact this (UInt8.toNat_inj.1 (by simpa using e))
      omega
    · have := ih (d :: q) (by simpa using hl) (fun c hc => hd c (List.mem_append_left _ hc)) (by simp) (by simpa using hh)
      omega
theorem decN_vN : ∀ (n : Nat) (l : List UInt8), l.length = n → isNum l = true → decN (vN l) = l := by
  intro n
  induction n with
  | zero =>
    intro l hl h
    obtain rfl := List.eq_nil_of_length_eq_zero hl
    simp [isNum] at h
  | succ n ih =>
    intro l hl h
    obtain ⟨hd, hne, hh⟩ := (isNum_iff l).1 h
    obtain ⟨q, c, rfl⟩ : ∃ q c, l = q ++ [c] := ⟨l.dropLast, l.getLast hne, (List.dropLast_concat_getLast hne).symm⟩
    have hc := hd c (by simp)
    have hc' := (isDig_iff c).1 hc
    rw [vN_snoc]
    rcases q with _ | ⟨d, q⟩
    · rw [show vN [] = 0 from rfl, decN_lt (by omega)]
      simp only [Nat.zero_mul, Nat.zero_add, List.nil_append]
      rw [ofNat_dig c hc]
    · have hh2 : (d :: q).head? ≠ some 48 := by
        rcases hh with hh | hh
        · simp at hh
        · simpa using hh
      have hq : isNum (d :: q) = true := (isNum_iff _).2 ⟨fun c hc => hd c (List.mem_append_left _ hc), by simp, .inr hh2⟩
      have hp := vN_pos _ (d :: q) rfl (fun c hc => hd c (List.mem_append_left _ hc)) (by simp) hh2
      rw [decN_ge (by omega), show (vN (d :: q) * 10 + (c.toNat - 48)) / 10 = vN (d :: q) from by omega, show (vN (d :: q) * 10 + (c.toNat - 48)) % 10 = c.toNat - 48 from by omega, ih (d :: q) (by simpa using hl) hq, ofNat_dig c hc]
theorem num_eq {l : List UInt8} {v : Nat} (h : isNum l = true) (hv : vN l = v) : l = decN v := by rw [← hv, decN_vN _ l rfl h]
theorem decN_num : ∀ (m n : Nat), n ≤ m → isNum (decN n) = true ∧ vN (decN n) = n := by
  intro m
  induction m with
  | zero =>
    intro n hn
    obtain rfl : n = 0 := by omega
    rw [decN_lt (by omega)]
    decide
  | succ m ih =>
    intro n hn
    by_cases h : n < 10
    · rw [decN_lt h]
      have := ofNat_toNat n h
      refine ⟨(isNum_iff _).2 ⟨fun c hc => ?_, by simp, .inl rfl⟩, ?_⟩
      · obtain rfl : c = UInt8.ofNat (48 + n) := by simpa using hc
        exact (isDig_iff _).2 (by omega)
      · simp only [vN, List.foldl_cons, List.foldl_nil]; omega
    · obtain ⟨h1, h2⟩ := ih (n / 10) (by omega)
      obtain ⟨hd, hne, hh⟩ := (isNum_iff _).1 h1
      rw [decN_ge h]
      have hm := ofNat_toNat (n % 10) (by omega)
      refine ⟨(isNum_iff _).2 ⟨fun c hc => ?_, by simp, .inr ?_⟩, ?_⟩
      · rcases List.mem_append.1 hc with hc | hc
        · exact hd c hc
        · obtain rfl : c = UInt8.ofNat (48 + n % 10) := by simpa using hc
          exact (isDig_iff _).2 (by omega)
      · rw [show (decN (n / 10) ++ [UInt8.ofNat (48 + n % 10)]).head? = (decN (n / 10)).head? from by
          obtain ⟨d, q, e⟩ := List.exists_cons_of_ne_nil hne
          rw [e]; rfl]
        rcases hh with hh | hh
        ·
          intro e
          obtain ⟨c, hc⟩ : ∃ c, decN (n / 10) = [c] := List.length_eq_one_iff.1 hh
          rw [hc] at e h2
          obtain rfl : c = 48 := by simpa using e
          have : vN [48] = 0 := by decide
          omega
        · exact hh
      · rw [vN_snoc, h2]; omega
theorem decN_isNum (n : Nat) : isNum (decN n) = true := (decN_num n n (Nat.le_refl _)).1
theorem vN_decN (n : Nat) : vN (decN n) = n := (decN_num n n (Nat.le_refl _)).2
theorem decN_ne (n : Nat) : decN n ≠ [] := ((isNum_iff _).1 (decN_isNum n)).2.1
theorem decN_head (n : Nat) (h : n ≠ 0) : (decN n).head? ≠ some 48 := by
  rcases ((isNum_iff _).1 (decN_isNum n)).2.2 with hh | hh
  · intro e
    obtain ⟨c, hc⟩ : ∃ c, decN n = [c] := List.length_eq_one_iff.1 hh
    have h2 := vN_decN n
    rw [hc] at e h2
    obtain rfl : c = 48 := by simpa using e
    have : vN [48] = 0 := by decide
    omega
  · exact hh
theorem vN_lt : ∀ (n : Nat) (l : List UInt8), l.length = n → (∀ c ∈ l, isDig c = true) → vN l < 10 ^ n := by
  intro n
  induction n with
  | zero => intro l hl _; obtain rfl := List.eq_nil_of_length_eq_zero hl; simp [vN]
  | succ n ih =>
    intro l hl hd
    have hne : l ≠ [] := by intro e; simp [e] at hl
    obtain ⟨q, c, rfl⟩ : ∃ q c, l = q ++ [c] := ⟨l.dropLast, l.getLast hne, (List.dropLast_concat_getLast hne).symm⟩
    have h1 := ih q (by simpa using hl) (fun c hc => hd c (List.mem_append_left _ hc))
    have h2 := (isDig_iff c).1 (hd c (by simp))
    rw [vN_snoc, Nat.pow_succ]
    omega
theorem decN_len (n k : Nat) (h : n < 10 ^ k) (hk : 0 < k) : (decN n).length ≤ k := by
  rcases Nat.lt_or_ge k (decN n).length with hl | hl
  · exfalso
    obtain ⟨hd, hne, hh⟩ := (isNum_iff _).1 (decN_isNum n)
    obtain ⟨d, q, e⟩ : ∃ d q, decN n = d :: q := List.exists_cons_of_ne_nil hne
    have hv := vN_decN n
    rw [e] at hl hd hh hv
    have hh2 : (d :: q).head? ≠ some 48 := by
      rcases hh with hh | hh
      · simp at hh hl; subst hh; simp at hl; omega
      · exact hh
    have hd1 := (isDig_iff d).1 (hd d (by simp))
    have hd48 : d.toNat ≠ 48 := by
      intro e2
      exact hh2 (by simp; exact UInt8.toNat_inj.1 (by simpa using e2))
    have := vN_append [d] q.length q rfl
    rw [List.singleton_append, hv] at this
    have h1 : vN [d] = d.toNat - 48 := by simp [vN]
    have h2 : (10 : Nat) ^ k ≤ 10 ^ q.length := Nat.pow_le_pow_right (by omega) (by simp at hl; omega)
    have h3 : 1 * 10 ^ q.length ≤ vN [d] * 10 ^ q.length := Nat.mul_le_mul_right _ (by omega)
    generalize vN [d] * 10 ^ q.length = t at this h3
    omega
  · exact hl
theorem vN_zeros (k : Nat) (l : List UInt8) : vN (List.replicate k 48 ++ l) = vN l := by
  rw [vN_append _ l.length l rfl]
  have : vN (List.replicate k 48) = 0 := by
    induction k with
    | zero => rfl
    | succ k ih => rw [List.replicate_succ', vN_snoc, ih]; rfl
  rw [this]; simp
end Go.Proofs.YtfndkpifgmcomaaDoor.QNum
