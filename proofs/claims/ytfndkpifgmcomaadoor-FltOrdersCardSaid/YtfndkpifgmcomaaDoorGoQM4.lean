/- Part of this claim: QAlive, QSigns, QFOrders. -/
import Derived.Laws.Bits64
import Derived.Test.YtfndkpifgmcomaaDoorGoXM4
import Derived.Test.YtfndkpifgmcomaaDoorGoXM1
import Derived.Test.YtfndkpifgmcomaaDoorGoXM2
import Derived.Test.YtfndkpifgmcomaaDoorGoQM3
section
namespace Go.Proofs.YtfndkpifgmcomaaDoor.Q
open Go Go.RowKit Go.Proofs.YtfndkpifgmcomaaDoor.XD Go.Proofs.YtfndkpifgmcomaaDoorW.PrintWords Go.Proofs.YtfndkpifgmcomaaDoorW.PrintLast Go.Proofs.YtfndkpifgmcomaaDoorW.PrintMore
open Go.Proofs.YtfndkpifgmcomaaDoor.QNum (isNum isNum_iff vN decN decN_len decN_isNum vN_decN decN_lt decN_ge decN_ne decN_head vN_lt)
set_option linter.unusedVariables false
theorem widen_one : flt_Widen.f 15360 2 = some (4607182418800017408, 0) := by decide +kernel
theorem narrow_one : flt_Narrow.f 4607182418800017408 = some (15360, 2) := by decide +kernel
theorem tenth : (mw 4591870180066957722 = 3602879701896397 ∧ pw 4591870180066957722 = -55 ∧ mant 4591870180066957722 ≠ 0) := by decide +kernel
theorem tenV : (3602879701896397 * 5 ^ 55) % 10 ≠ 0 ∧ 10 ^ 54 ≤ 3602879701896397 * 5 ^ 55 ∧ 3602879701896397 * 5 ^ 55 < 10 ^ 55 := by decide +kernel
theorem exact_tenth (k : Nat) (hk : 6000000 < k) : ∃ b : ByteArray, flt_Exact.f k 4591870180066957722 = some (false, b, -55, 0) ∧ b.size = 55 := by
  obtain ⟨h1, h2, h3⟩ := tenth
  obtain ⟨v1, v2, v3⟩ := tenV
  have := exact_num 4591870180066957722 (by omega) (by decide) h3 (3602879701896397 * 5 ^ 55) 0 (by rw [h1, h2, Nat.pow_zero, Nat.mul_one]; rfl) v1 k hk
  rw [h2] at this
  refine ⟨bs (decN (3602879701896397 * 5 ^ 55)), this, ?_⟩
  rw [bs_size]
  have l1 := decN_len _ 55 v3 (by omega)
  have l2 := vN_lt (decN (3602879701896397 * 5 ^ 55)).length (decN (3602879701896397 * 5 ^ 55)) rfl ((isNum_iff _).1 (decN_isNum _)).1
  rw [vN_decN] at l2
  rcases Nat.lt_or_ge (decN (3602879701896397 * 5 ^ 55)).length 55 with h | h
  · exfalso
    have : (10 : Nat) ^ (decN (3602879701896397 * 5 ^ 55)).length ≤ 10 ^ 54 := Nat.pow_le_pow_right (by omega) (by omega)
    omega
  · omega
theorem alive7 (k : Nat) (hk : 6000000 < k) : gantlinelaw07_alive.f k = some true := by
  obtain ⟨b, h1, h2⟩ := exact_tenth k hk
  unfold gantlinelaw07_alive.f
  rw [widen_one, Option.bind_some, narrow_one, Option.bind_some, h1, Option.bind_some]
  simp only [if_true, h2]
  rfl
end Go.Proofs.YtfndkpifgmcomaaDoor.Q
end
section
namespace Go.Proofs.YtfndkpifgmcomaaDoor.Q
open Go Go.RowKit Go.Proofs.YtfndkpifgmcomaaDoor.XD Go.Proofs.YtfndkpifgmcomaaDoorW.PrintWords Go.Proofs.YtfndkpifgmcomaaDoorW.PrintLast Go.Proofs.YtfndkpifgmcomaaDoorW.PrintMore
open Go.Proofs.YtfndkpifgmcomaaDoor.QNum (decN decN_ne)
set_option linter.unusedVariables false
theorem wf_u64 {a : Int} (h : (Lit.int .u64 a).wf = true) : 0 ≤ a ∧ a ≤ 18446744073709551615 := by
  simp only [Lit.wf, Bool.and_eq_true, decide_eq_true_eq] at h
  exact h
end Go.Proofs.YtfndkpifgmcomaaDoor.Q
end
section
namespace Go.Proofs.YtfndkpifgmcomaaDoor.Q
open Go Go.RowKit Go.Proofs.YtfndkpifgmcomaaDoor.XD Go.Proofs.YtfndkpifgmcomaaDoorW.PrintWords Go.Proofs.YtfndkpifgmcomaaDoorW.PrintLast Go.Proofs.YtfndkpifgmcomaaDoorW.PrintMore
open Go.Proofs.YtfndkpifgmcomaaDoor.QNum (isNum isNum_iff vN decN decN_len decN_isNum vN_decN decN_lt decN_ge decN_ne decN_head)
set_option linter.unusedVariables false
def p5 : Nat → Nat
  | 0 => 1
  | n + 1 => 5 * p5 n
theorem p5_eq : ∀ n, p5 n = 5 ^ n
  | 0 => rfl
  | n + 1 => by rw [p5, p5_eq n, Nat.pow_succ, Nat.mul_comm]
theorem p5_pos (n : Nat) : 0 < p5 n := by rw [p5_eq]; exact Nat.pow_pos (by decide)
def F5 : Nat := p5 1074
theorem F5_pos : 0 < F5 := p5_pos _
theorem F5_split (a b : Nat) (h : a + b = 1074) : F5 = 5 ^ a * 5 ^ b := by
  unfold F5
  rw [← h, p5_eq, Nat.pow_add]
def G (n : Nat) : Nat := mant n * 2 ^ (expo n + 1074).toNat
theorem G_lt {a b : Nat} (hb : b < 9223372036854775808) (h : a < b) : G a < G b := by
  have ea : a / 4503599627370496 % 2048 = a / 4503599627370496 := by omega
  have eb : b / 4503599627370496 % 2048 = b / 4503599627370496 := by omega
  unfold G
  by_cases hx : a / 4503599627370496 = b / 4503599627370496
  · have he : expo a = expo b := by unfold expo; rw [ea, eb, hx]
    have hm : mant a < mant b := by
      unfold mant
      rw [ea, eb, hx]
      split <;> omega
    rw [he]
    exact Nat.mul_lt_mul_of_pos_right hm (Nat.pow_pos (by omega))
  · have hlt : a / 4503599627370496 < b / 4503599627370496 := by omega
    have hmb : 4503599627370496 ≤ mant b := by
      unfold mant
      rw [eb, if_neg (by omega)]
      omega
    have heb : (expo b + 1074).toNat = b / 4503599627370496 - 1 := by
      unfold expo
      rw [eb, if_neg (by omega)]
      omega
    by_cases h0 : a / 4503599627370496 = 0
    · have hma : mant a < 4503599627370496 := by
        unfold mant
        rw [ea, if_pos h0]
        omega
      have hea : (expo a + 1074).toNat = 0 := by
        unfold expo
        rw [ea, if_pos h0]
        omega
      rw [hea, Nat.pow_zero, Nat.mul_one]
      have : mant b * 1 ≤ mant b * 2 ^ (expo b + 1074).toNat := Nat.mul_le_mul_left _ (Nat.pow_pos (by omega))
      omega
    · have hma := mant_lt a
      have hea : (expo a + 1074).toNat = a / 4503599627370496 - 1 := by
        unfold expo
        rw [ea, if_neg h0]
        omega
      rw [hea, heb]
      obtain ⟨d, hd⟩ : ∃ d, b / 4503599627370496 - 1 = (a / 4503599627370496 - 1) + 1 + d := ⟨b / 4503599627370496 - 1 - (a / 4503599627370496 - 1) - 1, by omega⟩
      rw [hd, Nat.pow_add, Nat.pow_succ]
      have hp : 0 < (2 : Nat) ^ (a / 4503599627370496 - 1) := Nat.pow_pos (by omega)
      have hq : 0 < (2 : Nat) ^ d := Nat.pow_pos (by omega)
      generalize (2 : Nat) ^ (a / 4503599627370496 - 1) = P at hp
      generalize (2 : Nat) ^ d = R at hq
      have h1 : mant a * P < 9007199254740992 * P := Nat.mul_lt_mul_of_pos_right hma hp
      have h2 : 4503599627370496 * (P * 2 * 1) ≤ mant b * (P * 2 * R) := Nat.mul_le_mul hmb (Nat.mul_le_mul_left _ hq)
      omega
theorem G_iff {a b : Nat} (ha : a < 9223372036854775808) (hb : b < 9223372036854775808) : (G a < G b ↔ a < b) := by
  constructor
  · intro h
    rcases Nat.lt_trichotomy a b with h1 | h1 | h1
    · exact h1
    · subst h1; omega
    · have := G_lt ha h1; omega
  · exact G_lt hb
theorem G_val (n mm z : Nat) (hM : mant n ≠ 0) (hV : mw n * (if pw n < 0 then 5 else 2) ^ (pw n).natAbs = mm * 10 ^ z) :
    mm * 10 ^ ((if pw n < 0 then pw n else 0) + (z : Int) + 1074).toNat = G n * F5 := by
  obtain ⟨s1, s2, s3, s4⟩ := tw_spec n hM
  obtain ⟨x0, x1⟩ := expo_range n
  have hpw : pw n = expo n + tw n := rfl
  have hG : G n = mw n * 2 ^ (pw n + 1074).toNat := by
    unfold G
    conv => lhs; rw [s1]
    rw [Nat.mul_assoc, ← Nat.pow_add]
    congr 2
    omega
  rw [hG]
  have h10 : ∀ j, (10 : Nat) ^ j = 2 ^ j * 5 ^ j := fun j => by rw [← Nat.mul_pow]
  by_cases hp : pw n < 0
  · rw [if_pos hp] at hV ⊢
    obtain ⟨q, hq⟩ : ∃ q : Nat, pw n + 1074 = q := ⟨(pw n + 1074).toNat, by omega⟩
    rw [show (pw n + (z : Int) + 1074).toNat = z + q from by omega, Nat.pow_add, ← Nat.mul_assoc, ← hV, hq, Int.toNat_natCast, h10 q, F5_split (pw n).natAbs q (by omega)]
    grind
  · rw [if_neg hp] at hV ⊢
    obtain ⟨K, hK⟩ : ∃ K : Nat, K = 1074 := ⟨_, rfl⟩
    have hF : F5 = 5 ^ K := by rw [F5_split K 0 (by omega), Nat.pow_zero, Nat.mul_one]
    rw [show (0 + (z : Int) + 1074).toNat = z + K from by omega, Nat.pow_add, ← Nat.mul_assoc, ← hV, h10 K, show (pw n + 1074).toNat = (pw n).natAbs + K from by omega, Nat.pow_add 2, hF]
    grind
theorem sz_app (x : List UInt8) : bs x ++ (⟨#[48]⟩ : ByteArray) = bs (x ++ [48]) := bytes_app x [48]
theorem rep_app (x : List UInt8) (d : Nat) : (x ++ [48]) ++ List.replicate d (48 : UInt8) = x ++ List.replicate (d + 1) 48 := by
  rw [List.append_assoc, List.replicate_succ]; rfl
theorem sz_l0 (low : Int) (n0 : Bool) (d0 : ByteArray) (e0 : Int) (n1 : Bool) (d1 : ByteArray) (e1 : Int) (y : ByteArray) (k : Nat) : ∀ (d : Nat) (x : List UInt8) (i : Int), i + d = e0 → -5000 ≤ i → e0 ≤ 5000 → x.length + d ≤ 100000 →
    gantlineref06_size.l0 (k + d + 1) low (bs x) y i n0 d0 e0 n1 d1 e1 = gantlineref06_size.l1 k (bs (x ++ List.replicate d 48)) y low n0 d0 e0 n1 d1 e1 := by
  intro d
  induction d with
  | zero =>
    intro x i h0 h1 h2 h3
    rw [gantlineref06_size.l0, if_neg (by omega), List.replicate_zero, List.append_nil]
  | succ d ih =>
    intro x i h0 h1 h2 h3
    rw [show k + (d + 1) + 1 = (k + d + 1) + 1 from by omega, gantlineref06_size.l0, if_pos (by omega), bs_size, if_pos (by omega), w64 (by omega) (by omega), sz_app, ih (x ++ [48]) (i + 1) (by omega) (by omega) h2 (by simp; omega), rep_app]
theorem sz_l1 (n0 : Bool) (d0 : ByteArray) (e0 : Int) (n1 : Bool) (d1 : ByteArray) (e1 : Int) (x : ByteArray) (k : Nat) : ∀ (d : Nat) (y : List UInt8) (i : Int), i + d = e1 → -5000 ≤ i → e1 ≤ 5000 → y.length + d ≤ 100000 →
    gantlineref06_size.l1 (k + d + 1) x (bs y) i n0 d0 e0 n1 d1 e1 = if d0.toList = ([48] : List UInt8) then gantlineref06_size.j2 k (⟨#[]⟩ : ByteArray) (bs (y ++ List.replicate d 48)) n1 d1 e1 else gantlineref06_size.j2 k x (bs (y ++ List.replicate d 48)) n1 d1 e1 := by
  intro d
  induction d with
  | zero =>
    intro y i h0 h1 h2 h3
    rw [gantlineref06_size.l1, if_neg (by omega), List.replicate_zero, List.append_nil]
  | succ d ih =>
    intro y i h0 h1 h2 h3
    rw [show k + (d + 1) + 1 = (k + d + 1) + 1 from by omega, gantlineref06_size.l1, if_pos (by omega), bs_size, if_pos (by omega), w64 (by omega) (by omega), sz_app, ih (y ++ [48]) (i + 1) (by omega) (by omega) h2 (by simp; omega), rep_app]
theorem sz_j3 (x y : ByteArray) (k : Nat) : gantlineref06_size.j3 (k + 2) x y = some (ordS x y) := by
  unfold ordS
  rw [gantlineref06_size.j3]
  simp only [gantlineref06_size.j4, ByteArray.toList_eq]
  by_cases h1 : x.size < y.size
  · rw [if_pos (by omega), if_pos trivial, if_neg (by omega), if_pos h1]
  · rw [if_neg (by omega)]
    by_cases h2 : x.size = y.size
    · rw [if_pos (by omega), if_pos h2, cmp_less _ _ (by rw [← szl, ← szl, h2])]
      split
      · rfl
      · split <;> rfl
    · rw [if_neg (by omega), if_neg h2, if_neg h1]
      rw [if_neg (by decide), if_neg (by intro e; exact h2 (by rw [szl, szl, e]))]
def padS (d : List UInt8) (j : Nat) : List UInt8 := if d = [48] then [] else d ++ List.replicate j 48
theorem size_eq (n0 : Bool) (d0 : List UInt8) (e0 : Int) (n1 : Bool) (d1 : List UInt8) (e1 : Int) (h0 : -2000 ≤ e0) (h1 : e0 ≤ 2000) (h2 : -2000 ≤ e1) (h3 : e1 ≤ 2000) (l0 : d0.length ≤ 1000) (l1 : d1.length ≤ 1000) (k : Nat) (hk : 10000 < k) :
    gantlineref06_size.f k n0 (bs d0) e0 n1 (bs d1) e1 = some (ordS (bs (padS d0 (e0 - mn e0 e1).toNat)) (bs (padS d1 (e1 - mn e0 e1).toNat))) := by
  have hm : mn e0 e1 ≤ e0 ∧ mn e0 e1 ≤ e1 ∧ -2000 ≤ mn e0 e1 := by unfold mn; split <;> omega
  unfold gantlineref06_size.f
  generalize mn e0 e1 = low at hm
  obtain ⟨p, hp⟩ : ∃ p : Nat, low + p = e0 := ⟨(e0 - low).toNat, by omega⟩
  obtain ⟨q, hq⟩ : ∃ q : Nat, low + q = e1 := ⟨(e1 - low).toNat, by omega⟩
  obtain ⟨k, rfl⟩ : ∃ r, k = r + 2 + 1 + 1 + q + 1 + p + 1 := ⟨k - p - q - 6, by omega⟩
  rw [sz_l0 low n0 (bs d0) e0 n1 (bs d1) e1 (bs d1) _ p d0 low hp (by omega) (by omega) (by omega), sz_l1 n0 (bs d0) e0 n1 (bs d1) e1 _ _ q d1 low hq (by omega) (by omega) (by omega)]
  rw [show (e0 - low).toNat = p from by omega, show (e1 - low).toNat = q from by omega, bs_list]
  unfold padS
  by_cases c0 : d0 = [48]
  · rw [if_pos c0, if_pos c0, gantlineref06_size.j2, bs_list]
    by_cases c1 : d1 = [48]
    · rw [if_pos c1, if_pos c1]; exact sz_j3 _ _ _
    · rw [if_neg c1, if_neg c1]; exact sz_j3 _ _ _
  · rw [if_neg c0, if_neg c0, gantlineref06_size.j2, bs_list]
    by_cases c1 : d1 = [48]
    · rw [if_pos c1, if_pos c1]; exact sz_j3 _ _ _
    · rw [if_neg c1, if_neg c1]; exact sz_j3 _ _ _
theorem less_irrefl : ∀ l : List UInt8, Op.bytesLess l l = false
  | [] => by simp [Op.bytesLess]
  | x :: l => by simp [Op.bytesLess, less_irrefl l]
theorem ord_zero (a b : ByteArray) : ordS a b = 0 ↔ a.data.toList = b.data.toList := by
  unfold ordS
  constructor
  · intro h
    split at h
    · rename_i hs
      rw [cmp_less _ _ (by rw [← szl, ← szl, hs])] at h
      split at h
      · omega
      · split at h
        · assumption
        · omega
    · split at h <;> omega
  · intro e
    have hs : a.size = b.size := by rw [szl, szl, e]
    rw [if_pos hs, e, cmp_less _ _ rfl, less_irrefl, if_neg (by decide), if_pos rfl]
structure Tells (n : Nat) (d : List UInt8) (e : Int) : Prop where
  lo : -1074 ≤ e
  hi : e ≤ 1000
  len : d.length ≤ 800
  right : ∀ k, 802 < k → gantlineref06_Right.f k false (bs d) e = some true
  val : (d = [48] ∧ e = 0 ∧ G n = 0) ∨ ∃ mm, d = decN mm ∧ mm % 10 ≠ 0 ∧ mm < 10 ^ 800 ∧ mm * 10 ^ (e + 1074).toNat = G n * F5
theorem tells (n : Nat) (hn : n < 9223372036854775808) (hx : n / 4503599627370496 % 2048 ≠ 2047) (k : Nat) (hk : 6000000 < k) : ∃ d e, flt_Exact.f k n = some (false, bs d, e, 0) ∧ Tells n d e := by
  by_cases hM : mant n = 0
  · refine ⟨[48], 0, exact_zero n (by omega) hx hM k hk, by omega, by omega, by decide, ?_, Or.inl ⟨rfl, rfl, ?_⟩⟩
    · intro k hk
      unfold gantlineref06_Right.f
      rw [ref_Right_eq _ (by rw [bs_size]; decide) k hk, show okS (bs [48]) = true from by decide +kernel, Option.bind_some, if_pos rfl, bs_list, if_pos rfl]
      rfl
    · unfold G; rw [hM, Nat.zero_mul]
  · obtain ⟨s1, s2, s3, s4⟩ := tw_spec n hM
    obtain ⟨x0, x1⟩ := expo_range n
    have hml := mant_lt n
    have hpos : 0 < (2 : Nat) ^ tw n := Nat.pow_pos (by omega)
    have hmle : mw n ≤ mant n := by rw [s1]; exact Nat.le_mul_of_pos_right _ hpos
    have hm0 : mw n ≠ 0 := by intro h; rw [h] at s1; simp at s1; exact hM s1
    have hpw : pw n = expo n + tw n := rfl
    have hV0 : mw n * (if pw n < 0 then 5 else 2) ^ (pw n).natAbs ≠ 0 := by
      refine Nat.mul_ne_zero hm0 (Nat.ne_of_gt (Nat.pow_pos ?_))
      split <;> omega
    obtain ⟨mm, z, hV, hmm⟩ := strip10 _ hV0
    have hVlt : mw n * (if pw n < 0 then 5 else 2) ^ (pw n).natAbs < 10 ^ 800 := V_lt (by omega) (by split <;> omega) (by omega)
    have hz := z_le hVlt hV hmm
    have hmm8 : mm < 10 ^ 800 := Nat.lt_of_le_of_lt (Nat.le_mul_of_pos_right _ (Nat.pow_pos (by omega))) (hV ▸ hVlt)
    have hex := exact_num n (by omega) hx hM mm z hV hmm k hk
    rw [show (((n / 9223372036854775808 : Nat) : Int) == 1) = false from by rw [show n / 9223372036854775808 = 0 from by omega]; rfl] at hex
    have hr0 : -1074 ≤ (if pw n < 0 then pw n else 0) + (z : Int) ∧ (if pw n < 0 then pw n else 0) + (z : Int) ≤ 1000 := by split <;> omega
    exact ⟨_, _, hex, hr0.1, hr0.2, decN_len mm 800 hmm8 (by omega), fun k hk => ref_Right_true false hmm hmm8 _ (by omega) (by omega) k hk, Or.inr ⟨mm, rfl, hmm, hmm8, G_val n mm z hM hV⟩⟩
theorem scale {ma mb : Nat} {ea eb low : Int} {ga gb : Nat} (ha : low ≤ ea) (hb : low ≤ eb) (h1 : ma * 10 ^ (ea + 1074).toNat = ga * F5) (h2 : mb * 10 ^ (eb + 1074).toNat = gb * F5) (hl : -1074 ≤ low) :
    ((ma * 10 ^ (ea - low).toNat < mb * 10 ^ (eb - low).toNat ↔ ga < gb)) ∧ (ma * 10 ^ (ea - low).toNat = mb * 10 ^ (eb - low).toNat ↔ ga = gb) := by
  have e1 : ma * 10 ^ (ea - low).toNat * 10 ^ (low + 1074).toNat = ga * F5 := by
    rw [Nat.mul_assoc, ← Nat.pow_add, ← h1]; congr 2; omega
  have e2 : mb * 10 ^ (eb - low).toNat * 10 ^ (low + 1074).toNat = gb * F5 := by
    rw [Nat.mul_assoc, ← Nat.pow_add, ← h2]; congr 2; omega
  have hT : 0 < (10 : Nat) ^ (low + 1074).toNat := Nat.pow_pos (by omega)
  have hF := F5_pos
  generalize ma * 10 ^ (ea - low).toNat = A at *
  generalize mb * 10 ^ (eb - low).toNat = B at *
  generalize (10 : Nat) ^ (low + 1074).toNat = T at *
  generalize F5 = F at *
  constructor
  · rw [← Nat.mul_lt_mul_right hT, e1, e2, Nat.mul_lt_mul_right hF]
  · constructor
    · rintro rfl
      exact Nat.eq_of_mul_eq_mul_right hF (e1.symm.trans e2)
    · rintro rfl
      exact Nat.eq_of_mul_eq_mul_right hT (e1.trans e2.symm)
theorem pad_num {m j : Nat} (hm : m % 10 ≠ 0) : padS (decN m) j = decN (m * 10 ^ j) := by
  unfold padS
  rw [if_neg (ne48 (by omega)), decN_zeros m (by omega)]
theorem order_tells {a b : Nat} {da db : List UInt8} {ea eb : Int} (ta : Tells a da ea) (tb : Tells b db eb) (k : Nat) (hk : 20000 < k) :
    ∃ r, gantlineref06_Order.f k false (bs da) ea false (bs db) eb = some (r, 0) ∧ (r < 0 ↔ G a < G b) ∧ (r = 0 ↔ G a = G b) := by
  obtain ⟨k, rfl⟩ : ∃ q, k = q + 3 := ⟨k - 3, by omega⟩
  have a1 := ta.lo
  have a2 := ta.hi
  have a3 := ta.len
  have b1 := tb.lo
  have b2 := tb.hi
  have b3 := tb.len
  unfold gantlineref06_Order.f
  rw [ta.right _ (by omega), Option.bind_some, if_pos rfl, tb.right _ (by omega), Option.bind_some, gantlineref06_Order.j0, if_neg (by decide), if_neg (by decide), gantlineref06_Order.j1, if_neg (by decide), if_neg (by decide), gantlineref06_Order.j2, if_neg (by decide), if_neg (by decide)]
  rw [size_eq false da ea false db eb (by omega) (by omega) (by omega) (by omega) (by omega) (by omega) k (by omega), Option.bind_some]
  refine ⟨_, rfl, ?_⟩
  have hm : mn ea eb ≤ ea ∧ mn ea eb ≤ eb ∧ (mn ea eb = ea ∨ mn ea eb = eb) := by unfold mn; split <;> omega
  generalize mn ea eb = low at hm
  have hne : ∀ m j, decN (m * 10 ^ j) ≠ [] := fun m j => decN_ne _
  have z0 : padS [48] (ea - low).toNat = [] := rfl
  have z1 : padS [48] (eb - low).toNat = [] := rfl
  have sz : ∀ l : List UInt8, l ≠ [] → ¬ (l.length = 0) := fun l h e => h (List.length_eq_zero_iff.1 e)
  have pos : ∀ {mm e g : Nat}, mm % 10 ≠ 0 → mm * 10 ^ e = g * F5 → 0 < g := by
    intro mm e g h1 h2
    rcases Nat.eq_zero_or_pos g with h | h
    · subst h
      have : 0 < mm * 10 ^ e := Nat.mul_pos (by omega) (Nat.pow_pos (by omega))
      omega
    · exact h
  rcases ta.val with ⟨rfl, rfl, ga⟩ | ⟨ma, rfl, hma, hma8, va⟩
  · rcases tb.val with ⟨rfl, rfl, gb⟩ | ⟨mb, rfl, hmb, hmb8, vb⟩
    · rw [z0, ga, gb, show ordS (bs []) (bs []) = 0 from by decide +kernel]
      omega
    · have hg := pos hmb vb
      rw [z0, pad_num hmb, ga]
      have hs := sz _ (hne mb (eb - low).toNat)
      unfold ordS
      rw [bs_size, bs_size, List.length_nil, if_neg (fun e => hs e.symm), if_pos (Nat.pos_of_ne_zero hs)]
      omega
  · rcases tb.val with ⟨rfl, rfl, gb⟩ | ⟨mb, rfl, hmb, hmb8, vb⟩
    · have hg := pos hma va
      rw [z1, pad_num hma, gb]
      have hs := sz _ (hne ma (ea - low).toNat)
      unfold ordS
      rw [bs_size, bs_size, List.length_nil, if_neg hs, if_neg (Nat.not_lt_zero _)]
      omega
    · have hl : -1074 ≤ low ∨ low < -1074 := by omega
      rw [pad_num hma, pad_num hmb]
      have h1 := ord_val (bs (decN (ma * 10 ^ (ea - low).toNat))) (bs (decN (mb * 10 ^ (eb - low).toNat))) (decN_isNum _) (decN_isNum _)
      rw [bs_data, bs_data, vN_decN, vN_decN] at h1
      have h2 := ord_zero (bs (decN (ma * 10 ^ (ea - low).toNat))) (bs (decN (mb * 10 ^ (eb - low).toNat)))
      rw [bs_data, bs_data] at h2
      have h3 : decN (ma * 10 ^ (ea - low).toNat) = decN (mb * 10 ^ (eb - low).toNat) ↔ ma * 10 ^ (ea - low).toNat = mb * 10 ^ (eb - low).toNat :=
        ⟨fun h => by rw [← vN_decN (ma * 10 ^ (ea - low).toNat), h, vN_decN], fun h => by rw [h]⟩
      have hs := scale (ga := G a) (gb := G b) (low := low) hm.1 hm.2.1 va vb (by omega)
      exact ⟨h1.1.trans hs.1, h2.trans (h3.trans hs.2)⟩
end Go.Proofs.YtfndkpifgmcomaaDoor.Q
namespace Go.Proofs.YtfndkpifgmcomaaDoor.Pure
open Go Go.RowKit Go.Proofs.YtfndkpifgmcomaaDoor.XD Go.Proofs.YtfndkpifgmcomaaDoorW.PrintWords Go.Proofs.YtfndkpifgmcomaaDoorW.PrintLast Q
theorem FltOrders : gantlinelaw07_FltOrders.Pure := by
  intro a0 a1 hwf0 hwf1
  obtain ⟨h0, h1⟩ : 0 ≤ a0 ∧ a0 ≤ 18446744073709551615 := wf_u64 hwf0
  obtain ⟨n, rfl⟩ := Int.eq_ofNat_of_zero_le h0
  obtain ⟨h2, h3⟩ : 0 ≤ a1 ∧ a1 ≤ 18446744073709551615 := wf_u64 hwf1
  obtain ⟨m, rfl⟩ := Int.eq_ofNat_of_zero_le h2
  refine ⟨8000002, ?_⟩
  unfold gantlinelaw07_FltOrders.f
  have en := and_ones n 63 (by omega) (by omega)
  have em := and_ones m 63 (by omega) (by omega)
  rw [show ((2 ^ 63 - 1 : Nat) : Int) = 9223372036854775807 from rfl] at en em
  rw [en, em]
  have hn : n % 2 ^ 63 < 9223372036854775808 := Nat.mod_lt _ (by decide)
  have hm : m % 2 ^ 63 < 9223372036854775808 := Nat.mod_lt _ (by decide)
  generalize n % 2 ^ 63 = a at hn
  generalize m % 2 ^ 63 = b at hm
  have ha := alive7 8000001 (by omega)
  have fa := finite_eq a (by omega)
  have fb := finite_eq b (by omega)
  by_cases hx : a / 4503599627370496 % 2048 = 2047
  · have hy : ∃ r, flt_Exact.f 8000002 (b : Int) = some r := by
      by_cases hy : b / 4503599627370496 % 2048 = 2047
      · exact ⟨_, exact_far b (by omega) hy _⟩
      · obtain ⟨d, e, h, _⟩ := tells b hm hy 8000002 (by omega)
        exact ⟨_, h⟩
    obtain ⟨r, hr⟩ := hy
    rw [exact_far a (by omega) hx, hr, Option.bind_some, Option.bind_some, if_neg (by decide), gantlinelaw07_FltOrders.j0, if_pos rfl, fa, Option.bind_some, if_neg (by simp [hx]), ha]
    rfl
  · obtain ⟨d, e, hd, ta⟩ := tells a hn hx 8000002 (by omega)
    rw [hd, Option.bind_some]
    by_cases hy : b / 4503599627370496 % 2048 = 2047
    · rw [exact_far b (by omega) hy, Option.bind_some, if_pos rfl, gantlinelaw07_FltOrders.j0, if_pos (by decide), fa, Option.bind_some, if_pos (by simp [hx]), fb, Option.bind_some, if_neg (by simp [hy]), ha]
      rfl
    · obtain ⟨d2, e2, hd2, tb⟩ := tells b hm hy 8000002 (by omega)
      obtain ⟨r, h4, h5, h6⟩ := order_tells ta tb 8000001 (by omega)
      rw [hd2, Option.bind_some, if_pos rfl, gantlinelaw07_FltOrders.j0, if_neg (by simp), h4, Option.bind_some, if_pos rfl]
      have g1 := G_iff hn hm
      have g2 := G_iff hm hn
      have hz : (r == 0) = ((a : Int) == (b : Int)) := by rw [Bool.eq_iff_iff, beq_iff_eq, beq_iff_eq]; omega
      rw [if_pos (by rw [beq_iff_eq, decide_eq_decide]; omega), hz, if_pos (by simp), ha]
      rfl
end Go.Proofs.YtfndkpifgmcomaaDoor.Pure
end
