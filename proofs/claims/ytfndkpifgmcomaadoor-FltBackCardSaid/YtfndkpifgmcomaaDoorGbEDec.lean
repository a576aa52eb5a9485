/- Part of this claim: EDec. -/
import Derived.Test.YtfndkpifgmcomaaDoorGbXM1
namespace Go.Proofs.YtfndkpifgmcomaaDoor.XD
open Go.RowKit Go.Proofs.YtfndkpifgmcomaaDoorW.PrintWords Go.Proofs.YtfndkpifgmcomaaDoorW.PrintLast Go.Proofs.YtfndkpifgmcomaaDoorW.PrintMore
set_option linter.unusedVariables false
theorem getD_set (x : List Int) (i t : Nat) (v : Int) (hi : i < x.length) : (x.set i v).getD t 0 = if t = i then v else x.getD t 0 := by
  simp only [List.getD_eq_getElem?_getD, List.getElem?_set]
  by_cases h : i = t
  · subst h; simp [hi]
  · simp [h, Ne.symm h]
theorem w64 {x : Int} (h0 : -9223372036854775808 ≤ x) (h1 : x ≤ 9223372036854775807) : wrap64 x = x := by unfold wrap64; omega
theorem rev_l0 (n : Nat) (hn : n ≤ 140737488355328) : ∀ (m k i : Nat) (x : List Int), x.length = n → n - 2 * i ≤ m → m < k →
    ∃ r, slices_Reverse_byte_byte.l0 k x i ((n : Int) - 1 - i) = some r ∧ r.length = n ∧ ∀ t, t < n → r.getD t 0 = if i ≤ t ∧ t + i < n then x.getD (n - 1 - t) 0 else x.getD t 0 := by
  intro m
  induction m with
  | zero =>
    intro k i x hx hm hk
    obtain ⟨k, rfl⟩ : ∃ q, k = q + 1 := ⟨k - 1, by omega⟩
    refine ⟨x, ?_, hx, fun t ht => ?_⟩
    · simp only [slices_Reverse_byte_byte.l0]
      rw [if_neg (by omega)]
    · rw [if_neg (by omega)]
  | succ m ih =>
    intro k i x hx hm hk
    obtain ⟨k, rfl⟩ : ∃ q, k = q + 1 := ⟨k - 1, by omega⟩
    by_cases h : 2 * i + 1 < n
    · obtain ⟨r, hr, hl, ha⟩ := ih k (i + 1) ((x.set i (x.getD (n - 1 - i) 0)).set (n - 1 - i) (x.getD i 0)) (by simp [hx]) (by omega) (by omega)
      refine ⟨r, ?_, hl, fun t ht => ?_⟩
      · simp only [slices_Reverse_byte_byte.l0]
        rw [if_pos (by omega), if_pos (by omega), if_pos (by omega), if_pos (by omega), if_pos (by omega), w64 (by omega) (by omega), w64 (by omega) (by omega)]
        have e1 : ((n : Int) - 1 - (i : Int)).toNat = n - 1 - i := by omega
        have e2 : ((i : Int)).toNat = i := by omega
        rw [show (i : Int) + 1 = ((i + 1 : Nat) : Int) from by omega, show (n : Int) - 1 - (i : Int) - 1 = (n : Int) - 1 - ((i + 1 : Nat) : Int) from by omega]
        unfold rd
        rw [e1, e2]
        exact hr
      · rw [ha t ht]
        rw [getD_set _ _ _ _ (by simp; omega), getD_set _ _ _ _ (by omega), getD_set _ _ _ _ (by simp; omega), getD_set _ _ _ _ (by omega)]
        by_cases c1 : i + 1 ≤ t ∧ t + (i + 1) < n
        · rw [if_pos c1, if_neg (by omega), if_neg (by omega), if_pos (by omega)]
        · rw [if_neg c1]
          by_cases c2 : t = n - 1 - i
          · rw [if_pos c2, if_pos (by omega), show n - 1 - t = i from by omega]
          · rw [if_neg c2]
            by_cases c3 : t = i
            · rw [if_pos c3, if_pos (by omega), c3]
            · rw [if_neg c3, if_neg (by omega)]
    · refine ⟨x, ?_, hx, fun t ht => ?_⟩
      · simp only [slices_Reverse_byte_byte.l0]
        rw [if_neg (by omega)]
      · by_cases c : i ≤ t ∧ t + i < n
        · rw [if_pos c, show n - 1 - t = t from by omega]
        · rw [if_neg c]
theorem reverse_eq (k : Nat) (l : List Int) (hl : l.length ≤ 140737488355328) (hk : l.length < k) : slices_Reverse_byte_byte.f k l = some l.reverse := by
  obtain ⟨r, hr, hlen, ha⟩ := rev_l0 l.length hl l.length k 0 l rfl (by omega) hk
  unfold slices_Reverse_byte_byte.f
  rw [w64 (by omega) (by omega)]
  rw [show ((l.length : Int) - 1) = (l.length : Int) - 1 - ((0 : Nat) : Int) from by omega]
  rw [show (0 : Int) = ((0 : Nat) : Int) from rfl, hr]
  congr 1
  apply List.ext_getElem
  · simp [hlen]
  · intro t h1 h2
    have := ha t (by omega)
    rw [if_pos (by omega)] at this
    simp only [List.getD_eq_getElem?_getD, List.getElem?_eq_getElem h1, Option.getD_some, List.getElem?_eq_getElem (show l.length - 1 - t < l.length by simp at h2; omega)] at this
    rw [this, List.getElem_reverse]
def dec10F : Nat → Nat → List UInt8
  | 0, _ => []
  | f + 1, n => if n < 10 then [UInt8.ofNat (48 + n)] else dec10F f (n / 10) ++ [UInt8.ofNat (48 + n % 10)]
def dec10 (n : Nat) : List UInt8 := dec10F 20 n
theorem wrapu {x : Int} (h0 : 0 ≤ x) (h1 : x < 18446744073709551616) : IntKind.u64.wrap x = x := by
  rw [IntKind.wrap_u64]; omega
theorem nums8 (d : Nat) (hd : d < 10) : (IntKind.u64.wrap (48 + (d : Int))) % 256 = ((UInt8.ofNat (48 + d)).toNat : Int) := by
  rw [wrapu (by omega) (by omega)]
  simp
def ints (l : List UInt8) : List Int := l.map fun b => (b.toNat : Int)
theorem strOfNums_ints (l : List UInt8) : strOfNums (ints l) = ⟨l.toArray⟩ := by
  unfold strOfNums ints
  congr 1
  rw [List.map_map]
  congr 1
  conv => rhs; rw [← List.map_id l]
  exact List.map_congr_left (fun b _ => by simp)
theorem fromWord_l0 : ∀ (f n k : Nat) (acc : List UInt8), n < 10 ^ (f + 1) → n < 18446744073709551616 → acc.length + f + 1 ≤ 140737488355328 → acc.length + 2 * f + 3 < k →
    nat_FromWord.l0 k n (ints acc) = some ⟨(dec10F (f + 1) n ++ acc.reverse).toArray⟩ := by
  intro f
  induction f with
  | zero =>
    intro n k acc hn hb ha hk
    obtain ⟨k, rfl⟩ : ∃ q, k = q + 1 := ⟨k - 1, by omega⟩
    simp only [nat_FromWord.l0]
    have h10 : n < 10 := by simpa using hn
    rw [if_pos (by simp [ints]; omega)]
    simp only [Option.bind_some]
    have e1 : Int.tmod (n : Int) 10 = (n : Int) := by rw [Int.tmod_eq_emod_of_nonneg (by omega)]; omega
    have e2 : Int.tdiv (n : Int) 10 = 0 := by rw [Int.tdiv_eq_ediv_of_nonneg (by omega)]; omega
    rw [e1, e2, nums8 n h10, if_pos (by rw [wrapu (by omega) (by omega)])]
    rw [show ints acc ++ [((UInt8.ofNat (48 + n)).toNat : Int)] = ints (acc ++ [UInt8.ofNat (48 + n)]) from by simp [ints]]
    rw [reverse_eq k _ (by simp [ints]; omega) (by simp [ints]; omega)]
    simp only [Option.bind_some]
    rw [show (ints (acc ++ [UInt8.ofNat (48 + n)])).reverse = ints ((acc ++ [UInt8.ofNat (48 + n)]).reverse) from by simp [ints]]
    rw [strOfNums_ints]
    simp [dec10F, h10]
  | succ f ih =>
    intro n k acc hn hb ha hk
    by_cases h10 : n < 10
    ·
      obtain ⟨k, rfl⟩ : ∃ q, k = q + 1 := ⟨k - 1, by omega⟩
      simp only [nat_FromWord.l0]
      rw [if_pos (by simp [ints]; omega)]
      simp only [Option.bind_some]
      have e1 : Int.tmod (n : Int) 10 = (n : Int) := by rw [Int.tmod_eq_emod_of_nonneg (by omega)]; omega
      have e2 : Int.tdiv (n : Int) 10 = 0 := by rw [Int.tdiv_eq_ediv_of_nonneg (by omega)]; omega
      rw [e1, e2, nums8 n h10, if_pos (by rw [wrapu (by omega) (by omega)])]
      rw [show ints acc ++ [((UInt8.ofNat (48 + n)).toNat : Int)] = ints (acc ++ [UInt8.ofNat (48 + n)]) from by simp [ints]]
      rw [reverse_eq k _ (by simp [ints]; omega) (by simp [ints]; omega)]
      simp only [Option.bind_some]
      rw [show (ints (acc ++ [UInt8.ofNat (48 + n)])).reverse = ints ((acc ++ [UInt8.ofNat (48 + n)]).reverse) from by simp [ints]]
      rw [strOfNums_ints]
      simp [dec10F, h10]
    · obtain ⟨k, rfl⟩ : ∃ q, k = q + 1 := ⟨k - 1, by omega⟩
      simp only [nat_FromWord.l0]
      rw [if_pos (by simp [ints]; omega)]
      simp only [Option.bind_some]
      have e1 : Int.tmod (n : Int) 10 = ((n % 10 : Nat) : Int) := by rw [Int.tmod_eq_emod_of_nonneg (by omega)]; omega
      have e2 : Int.tdiv (n : Int) 10 = ((n / 10 : Nat) : Int) := by rw [Int.tdiv_eq_ediv_of_nonneg (by omega)]; omega
      rw [e1, e2, nums8 (n % 10) (by omega), wrapu (x := ((n / 10 : Nat) : Int)) (by omega) (by omega), if_neg (by omega)]
      rw [show ints acc ++ [((UInt8.ofNat (48 + n % 10)).toNat : Int)] = ints (acc ++ [UInt8.ofNat (48 + n % 10)]) from by simp [ints]]
      rw [ih (n / 10) k (acc ++ [UInt8.ofNat (48 + n % 10)]) (by rw [Nat.pow_succ] at hn; omega) (by omega) (by simp; omega) (by simp; omega)]
      conv => rhs; rw [dec10F, if_neg h10]
      simp
theorem fromWord_eq (n : Nat) (h : n < 18446744073709551616) (k : Nat) (hk : 50 < k) : nat_FromWord.f k n = some ⟨(dec10 n).toArray⟩ := by
  have := fromWord_l0 19 n k [] (by omega) h (by simp) (by simp; omega)
  simpa [nat_FromWord.f, ints, dec10] using this
end Go.Proofs.YtfndkpifgmcomaaDoor.XD
