/- What the reference's Add, Sub and Mul compute. -/
import Derived.Test.YtfndkpifgmcomaaDoorX11
import Derived.Test.YtfndkpifgmcomaaDoorX10
import Derived.Test.YtfndkpifgmcomaaDoorQText
import Derived.Test.YtfndkpifgmcomaaDoorQTimes
namespace Go.Proofs.YtfndkpifgmcomaaDoor.Q
open Go.RowKit Go.Proofs.YtfndkpifgmcomaaDoor.XD Go.Proofs.YtfndkpifgmcomaaDoorW.PrintWords Go.Proofs.YtfndkpifgmcomaaDoorW.PrintLast Go.Proofs.YtfndkpifgmcomaaDoorW.PrintMore
open Go.Proofs.YtfndkpifgmcomaaDoor.QNum (bv bv_append bv_set bv_nonneg bv_replicate bv_lt isNum isNum_iff vN decN)
set_option linter.unusedVariables false

def Bnd (M : Int) (xs : List Int) : Prop := ∀ y ∈ xs, 0 ≤ y ∧ y ≤ M
theorem bnd_getD {M : Int} {xs : List Int} (h : Bnd M xs) (hM : 0 ≤ M) (i : Nat) : 0 ≤ xs.getD i 0 ∧ xs.getD i 0 ≤ M := by
  rw [List.getD_eq_getElem?_getD]
  rcases Nat.lt_or_ge i xs.length with hi | hi
  · rw [List.getElem?_eq_getElem hi]
    exact h _ (List.getElem_mem hi)
  · rw [List.getElem?_eq_none hi]
    exact ⟨by simp, by simpa using hM⟩
theorem bnd_set {M N : Int} {xs : List Int} (h : Bnd M xs) (i : Nat) (v : Int) (hMN : M ≤ N) (h0 : 0 ≤ v) (h1 : v ≤ N) : Bnd N (xs.set i v) := by
  intro y hy
  rcases List.mem_or_eq_of_mem_set hy with hy | rfl
  · have := h y hy; omega
  · exact ⟨h0, h1⟩
theorem ntn (i : Nat) : ((i : Int)).toNat = i := by omega
theorem radd_l1 (ys : List Int) (hy : Bnd 9 ys) (hn : ys.length ≤ 1000) : ∀ (d k i : Nat) (out : List Int), ys.length - i = d → i ≤ ys.length → ys.length ≤ out.length → out.length ≤ 10000 → Bnd (10000 + 9 * i) out → d + 100000 < k →
    gantlineref05_Add.l1 k i ys out = some (shortN (bv 10 out + (bv 10 ys - bv 10 (ys.take i))).toNat) := by
  intro d
  induction d with
  | zero =>
    intro k i out hd hi hl hl2 hb hk
    obtain ⟨k, rfl⟩ : ∃ q, k = q + 1 := ⟨k - 1, by omega⟩
    obtain rfl : i = ys.length := by omega
    rw [gantlineref05_Add.l1, if_neg (by omega), text_eq out (by omega) (fun y hy => by have := hb y hy; omega) k (by omega), Option.bind_some, ref_short_eq, Option.bind_some, List.take_length]
    rw [show bv 10 out + (bv 10 ys - bv 10 ys) = bv 10 out from by omega]
  | succ d ih =>
    intro k i out hd hi hl hl2 hb hk
    obtain ⟨k, rfl⟩ : ∃ q, k = q + 1 := ⟨k - 1, by omega⟩
    have h1 := bnd_getD hy (by omega) i
    have h2 := bnd_getD hb (by omega) i
    have r1 : rd ys (i : Int) = ys.getD i 0 := rfl
    have r2 : rd out (i : Int) = out.getD i 0 := rfl
    rw [gantlineref05_Add.l1, if_pos (by omega), if_pos (by omega), if_pos (by omega), r1, r2, w64 (by omega) (by omega), w64 (x := out.getD i 0 + ys.getD i 0) (by omega) (by omega), ntn]
    rw [show (i : Int) + 1 = ((i + 1 : Nat) : Int) from rfl, ih k (i + 1) _ (by omega) (by omega) (by rw [List.length_set]; omega) (by rw [List.length_set]; omega) (bnd_set hb _ _ (by omega) (by omega) (by omega)) (by omega)]
    rw [bv_set _ _ _ _ (by omega), bv_take_succ _ _ _ (by omega)]
    congr 3
    grind
theorem radd_l0 (xs ys : List Int) (hx : Bnd 9 xs) (hy : Bnd 9 ys) (hnx : xs.length ≤ 1000) (hn : ys.length ≤ 1000) : ∀ (d k i : Nat) (out : List Int), xs.length - i = d → i ≤ xs.length → xs.length ≤ out.length → ys.length ≤ out.length → out.length ≤ 10000 → Bnd (9 * i) out → d + 200000 < k →
    gantlineref05_Add.l0 k i xs ys out = some (shortN (bv 10 out + (bv 10 xs - bv 10 (xs.take i)) + bv 10 ys).toNat) := by
  intro d
  induction d with
  | zero =>
    intro k i out hd hi hl hly hl2 hb hk
    obtain ⟨k, rfl⟩ : ∃ q, k = q + 1 := ⟨k - 1, by omega⟩
    obtain rfl : i = xs.length := by omega
    have := radd_l1 ys hy hn ys.length k 0 out (by omega) (by omega) hly hl2 (fun y hy => by have := hb y hy; omega) (by omega)
    rw [gantlineref05_Add.l0, if_neg (by omega)]
    rw [show ((0 : Nat) : Int) = 0 from rfl] at this
    rw [this, List.take_length]
    simp only [List.take_zero, bv]
    congr 3
    omega
  | succ d ih =>
    intro k i out hd hi hl hly hl2 hb hk
    obtain ⟨k, rfl⟩ : ∃ q, k = q + 1 := ⟨k - 1, by omega⟩
    have h1 := bnd_getD hx (by omega) i
    have h2 := bnd_getD hb (by omega) i
    have r1 : rd xs (i : Int) = xs.getD i 0 := rfl
    have r2 : rd out (i : Int) = out.getD i 0 := rfl
    rw [gantlineref05_Add.l0, if_pos (by omega), if_pos (by omega), if_pos (by omega), r1, r2, w64 (by omega) (by omega), w64 (x := out.getD i 0 + xs.getD i 0) (by omega) (by omega), ntn]
    rw [show (i : Int) + 1 = ((i + 1 : Nat) : Int) from rfl, ih k (i + 1) _ (by omega) (by omega) (by rw [List.length_set]; omega) (by rw [List.length_set]; omega) (by rw [List.length_set]; omega) (bnd_set hb _ _ (by omega) (by omega) (by omega)) (by omega)]
    rw [bv_set _ _ _ _ (by omega), bv_take_succ _ _ _ (by omega)]
    congr 3
    grind
theorem bnd_rep (n : Nat) (M : Int) (h : 0 ≤ M) : Bnd M (List.replicate n 0) := fun y hy => by rw [List.eq_of_mem_replicate hy]; omega
/-- What a fit pair of texts gives. -/
structure Fit (a b : ByteArray) : Prop where
  na : isNum a.data.toList = true
  nb : isNum b.data.toList = true
  sa : a.size ≤ 800
  sb : b.size ≤ 800
theorem Fit.da {a b : ByteArray} (h : Fit a b) : ∀ c ∈ a.data.toList, QNum.isDig c = true := ((isNum_iff _).1 h.na).1
theorem Fit.db {a b : ByteArray} (h : Fit a b) : ∀ c ∈ b.data.toList, QNum.isDig c = true := ((isNum_iff _).1 h.nb).1
def vA (a : ByteArray) : Nat := vN a.data.toList
theorem ref_Add_j0 (a b : ByteArray) (h : Fit a b) (k : Nat) (hk : 2000000 < k) : gantlineref05_Add.j0 k a b false = some (shortN (vA a + vA b)) := by
  obtain ⟨k, rfl⟩ : ∃ q, k = q + 1 := ⟨k - 1, by omega⟩
  have la : (dL a.data.toList).length = a.size := by rw [dL_len, szl]
  have lb : (dL b.data.toList).length = b.size := by rw [dL_len, szl]
  have sa := h.sa
  have sb := h.sb
  rw [gantlineref05_Add.j0, if_neg (by simp), ref_digits_eq a (by omega) k (by omega), Option.bind_some, ref_digits_eq b (by omega) k (by omega), Option.bind_some]
  have key : ∀ n : Nat, a.size ≤ n → b.size ≤ n → n ≤ 1000 → gantlineref05_Add.l0 k 0 (dL a.data.toList) (dL b.data.toList) (List.replicate n 0) = some (shortN (vA a + vA b)) := by
    intro n h1 h2 h3
    have := radd_l0 (dL a.data.toList) (dL b.data.toList) (dL_small _ h.da) (dL_small _ h.db) (by omega) (by omega) (dL a.data.toList).length k 0 (List.replicate n 0) (by omega) (by omega) (by simp; omega) (by simp; omega) (by simp; omega) (bnd_rep n _ (by omega)) (by omega)
    rw [show ((0 : Nat) : Int) = 0 from rfl] at this
    rw [this]
    simp only [List.take_zero, bv_replicate, dL_val _ _ rfl h.da, dL_val _ _ rfl h.db]
    congr 2
    simp only [bv, vA]
    omega
  rw [la, lb]
  by_cases hlt : (a.size : Int) < (b.size : Int)
  · rw [if_pos hlt, if_pos (by omega), ntn, if_pos (by omega), key _ (by omega) (by omega) (by omega)]
  · rw [if_neg hlt, if_pos (by omega), ntn, if_pos (by omega), key _ (by omega) (by omega) (by omega)]

/-! ### Sub -/
theorem getD_mem_take {xs : List Int} {i : Nat} {y : Int} (h : y ∈ xs.take i) : ∃ j, j < i ∧ j < xs.length ∧ y = xs.getD j 0 := by
  obtain ⟨j, hj, rfl⟩ := List.getElem_of_mem h
  rw [List.length_take] at hj
  refine ⟨j, by omega, by omega, ?_⟩
  rw [List.getElem_take, List.getD_eq_getElem?_getD, List.getElem?_eq_getElem (by omega)]
  rfl
theorem getD_mem {xs : List Int} {y : Int} (h : y ∈ xs) : ∃ j, j < xs.length ∧ y = xs.getD j 0 := by
  obtain ⟨j, hj, rfl⟩ := List.getElem_of_mem h
  refine ⟨j, hj, ?_⟩
  rw [List.getD_eq_getElem?_getD, List.getElem?_eq_getElem hj]
  rfl
theorem rsub_l1 : ∀ (d k i : Nat) (x : List Int), x.length - i = d → i ≤ x.length → x.length ≤ 10000 → (∀ j, -10 ≤ x.getD j 0 ∧ x.getD j 0 ≤ 9) → (∀ j, j < i → 0 ≤ x.getD j 0) → (∀ j, i < j → -9 ≤ x.getD j 0) → 0 ≤ bv 10 x → d + 100000 < k →
    gantlineref05_Sub.l1 k i x = some (⟨(decN (bv 10 x).toNat).toArray⟩, 0) := by
  intro d
  induction d with
  | zero =>
    intro k i x hd hi hl hb h0 h9 hv hk
    obtain ⟨k, rfl⟩ : ∃ q, k = q + 1 := ⟨k - 1, by omega⟩
    obtain rfl : i = x.length := by omega
    rw [gantlineref05_Sub.l1, if_neg (by omega), text_eq x (by omega) (fun y hy => by
      obtain ⟨j, hj, rfl⟩ := getD_mem hy
      have h1 := h0 j hj
      have h2 := hb j
      omega) k (by omega), Option.bind_some]
  | succ d ih =>
    intro k i x hd hi hl hb h0 h9 hv hk
    obtain ⟨k, rfl⟩ : ∃ q, k = q + 1 := ⟨k - 1, by omega⟩
    have r1 : rd x (i : Int) = x.getD i 0 := rfl
    have hbi := hb i
    rw [gantlineref05_Sub.l1, if_pos (by omega), if_pos (by omega), r1, w64 (x := (i : Int) + 1) (by omega) (by omega), show (i : Int) + 1 = ((i + 1 : Nat) : Int) from rfl]
    by_cases hneg : x.getD i 0 < 0
    · rw [if_pos hneg, Option.bind_some, w64 (x := x.getD i 0 + 10) (by omega) (by omega), ntn, ntn]
      have hlt : i + 1 < x.length := by
        rcases Nat.lt_or_ge (i + 1) x.length with h | h
        · exact h
        · exfalso
          obtain hie : x.length = i + 1 := by omega
          have e1 := bv_take_succ 10 x i (by omega)
          rw [List.take_of_length_le (by omega)] at e1
          have e2 := bv_lt 10 (by omega) (x.take i) (fun y hy => by
            obtain ⟨j, hj, _, rfl⟩ := getD_mem_take hy
            have := h0 j hj
            have := hb j
            omega)
          rw [List.length_take, Nat.min_eq_left (by omega)] at e2
          have e3 : (10 : Int) ^ i * x.getD i 0 ≤ (10 : Int) ^ i * (-1) := Int.mul_le_mul_of_nonneg_left (by omega) (Int.pow_nonneg (by omega))
          omega
      have hb1 := hb (i + 1)
      have h91 := h9 (i + 1) (by omega)
      have r2 : rd (x.set i (x.getD i 0 + 10)) ((i + 1 : Nat) : Int) = x.getD (i + 1) 0 := by
        show (x.set i (x.getD i 0 + 10)).getD ((i + 1 : Nat) : Int).toNat 0 = _
        rw [ntn, getD_set' _ _ _ _ (by omega), if_neg (by omega)]
      rw [if_pos (by omega), if_pos (by omega), r2, w64 (x := x.getD (i + 1) 0 - 1) (by omega) (by omega)]
      have hg : ∀ j, ((x.set i (x.getD i 0 + 10)).set (i + 1) (x.getD (i + 1) 0 - 1)).getD j 0 = if j = i + 1 then x.getD (i + 1) 0 - 1 else if j = i then x.getD i 0 + 10 else x.getD j 0 := by
        intro j
        rw [getD_set' _ _ _ _ (by rw [List.length_set]; omega), getD_set' _ _ _ _ (by omega)]
      have hval : bv 10 ((x.set i (x.getD i 0 + 10)).set (i + 1) (x.getD (i + 1) 0 - 1)) = bv 10 x := by
        rw [bv_set _ _ _ _ (by rw [List.length_set]; omega), bv_set _ _ _ _ (by omega), getD_set' _ _ _ _ (by omega), if_neg (by omega), Int.pow_succ]
        grind
      rw [ih k (i + 1) _ (by rw [List.length_set, List.length_set]; omega) (by rw [List.length_set, List.length_set]; omega) (by rw [List.length_set, List.length_set]; omega) (fun j => by
        rw [hg]
        have := hb j
        split
        · omega
        · split <;> omega) (fun j hj => by
        rw [hg, if_neg (by omega)]
        split
        · omega
        · exact h0 j (by omega)) (fun j hj => by
        rw [hg, if_neg (by omega), if_neg (by omega)]
        exact h9 j (by omega)) (by rw [hval]; exact hv) (by omega), hval]
    · rw [if_neg hneg, ih k (i + 1) x (by omega) (by omega) hl hb (fun j hj => by
        rcases Nat.lt_or_ge j i with h | h
        · exact h0 j h
        · obtain rfl : j = i := by omega
          omega) (fun j hj => h9 j (by omega)) hv (by omega)]
theorem rsub_l0 (ys : List Int) (hy : Bnd 9 ys) (hn : ys.length ≤ 1000) : ∀ (d k i : Nat) (x : List Int), ys.length - i = d → i ≤ ys.length → ys.length ≤ x.length → x.length ≤ 10000 → (∀ j, -9 ≤ x.getD j 0 ∧ x.getD j 0 ≤ 9) → (∀ j, i ≤ j → 0 ≤ x.getD j 0) → 0 ≤ bv 10 x - (bv 10 ys - bv 10 (ys.take i)) → d + 200000 < k →
    gantlineref05_Sub.l0 k i x ys = some (⟨(decN (bv 10 x - (bv 10 ys - bv 10 (ys.take i))).toNat).toArray⟩, 0) := by
  intro d
  induction d with
  | zero =>
    intro k i x hd hi hl hl2 hb h0 hv hk
    obtain ⟨k, rfl⟩ : ∃ q, k = q + 1 := ⟨k - 1, by omega⟩
    obtain rfl : i = ys.length := by omega
    rw [List.take_length, show bv 10 x - (bv 10 ys - bv 10 ys) = bv 10 x from by omega] at *
    have := rsub_l1 x.length k 0 x (by omega) (by omega) (by omega) (fun j => by have := hb j; omega) (fun j hj => by omega) (fun j hj => (hb j).1) hv (by omega)
    rw [show ((0 : Nat) : Int) = 0 from rfl] at this
    rw [gantlineref05_Sub.l0, if_neg (by omega), this]
  | succ d ih =>
    intro k i x hd hi hl hl2 hb h0 hv hk
    obtain ⟨k, rfl⟩ : ∃ q, k = q + 1 := ⟨k - 1, by omega⟩
    have h1 := bnd_getD hy (by omega) i
    have h2 := hb i
    have h3 := h0 i (by omega)
    have r1 : rd ys (i : Int) = ys.getD i 0 := rfl
    have r2 : rd x (i : Int) = x.getD i 0 := rfl
    rw [gantlineref05_Sub.l0, if_pos (by omega), if_pos (by omega), if_pos (by omega), r1, r2, w64 (by omega) (by omega), w64 (x := x.getD i 0 - ys.getD i 0) (by omega) (by omega), ntn]
    have hval : bv 10 (x.set i (x.getD i 0 - ys.getD i 0)) - (bv 10 ys - bv 10 (ys.take (i + 1))) = bv 10 x - (bv 10 ys - bv 10 (ys.take i)) := by
      rw [bv_set _ _ _ _ (by omega), bv_take_succ _ _ _ (by omega)]
      grind
    rw [show (i : Int) + 1 = ((i + 1 : Nat) : Int) from rfl, ih k (i + 1) _ (by omega) (by omega) (by rw [List.length_set]; omega) (by rw [List.length_set]; omega) (fun j => by
      have := hb j
      rw [getD_set' _ _ _ _ (by omega)]
      split <;> omega) (fun j hj => by
      rw [getD_set' _ _ _ _ (by omega), if_neg (by omega)]
      exact h0 j (by omega)) (by rw [hval]; exact hv) (by omega), hval]
theorem ref_Sub_j0 (a b : ByteArray) (h : Fit a b) (hle : b.size ≤ a.size) (hv : vA b ≤ vA a) (k : Nat) (hk : 2000000 < k) : gantlineref05_Sub.j0 k a b false = some (⟨(decN (vA a - vA b)).toArray⟩, 0) := by
  obtain ⟨k, rfl⟩ : ∃ q, k = q + 1 := ⟨k - 1, by omega⟩
  have la : (dL a.data.toList).length = a.size := by rw [dL_len, szl]
  have lb : (dL b.data.toList).length = b.size := by rw [dL_len, szl]
  have sa := h.sa
  have sb := h.sb
  have va : bv 10 (dL a.data.toList) = (vA a : Int) := dL_val _ _ rfl h.da
  have vb : bv 10 (dL b.data.toList) = (vA b : Int) := dL_val _ _ rfl h.db
  rw [gantlineref05_Sub.j0, if_neg (by simp), ref_digits_eq a (by omega) k (by omega), Option.bind_some, ref_digits_eq b (by omega) k (by omega), Option.bind_some]
  have ba : Bnd 9 (dL a.data.toList) := dL_small _ h.da
  have := rsub_l0 (dL b.data.toList) (dL_small _ h.db) (by omega) (dL b.data.toList).length k 0 (dL a.data.toList) (by omega) (by omega) (by omega) (by omega) (fun j => by have := bnd_getD ba (by omega) j; omega) (fun j hj => (bnd_getD ba (by omega) j).1) (by rw [va, vb, List.take_zero]; simp only [bv]; omega) (by omega)
  rw [show ((0 : Nat) : Int) = 0 from rfl] at this
  rw [this, va, vb]
  simp only [List.take_zero, bv]
  congr 5
  omega

/-! ### Mul -/
theorem rmul_inner (xs ys : List Int) (i : Nat) (hx : Bnd 9 xs) (hy : Bnd 9 ys) (hi : i < xs.length) (hnx : xs.length ≤ 1000) (hny : ys.length ≤ 1000) : ∀ (d k j : Nat) (out : List Int) (M : Int), ys.length - j = d → j ≤ ys.length → 0 ≤ M → M + 81 * d ≤ 100000000000 → Bnd M out → out.length = xs.length + ys.length →
    ∃ out2, gantlineref05_mul.l1 (k + d + 1) i j xs ys out = gantlineref05_mul.l0 k ((i + 1 : Nat) : Int) xs ys out2 ∧ Bnd (M + 81 * d) out2 ∧ out2.length = xs.length + ys.length ∧ bv 10 out2 = bv 10 out + 10 ^ i * (xs.getD i 0 * (bv 10 ys - bv 10 (ys.take j))) := by
  intro d
  induction d with
  | zero =>
    intro k j out M hd hj hM hM2 hb hl
    obtain rfl : j = ys.length := by omega
    refine ⟨out, ?_, by simpa using hb, hl, ?_⟩
    · rw [Nat.add_zero, gantlineref05_mul.l1, if_neg (by omega), w64 (by omega) (by omega)]
      rfl
    · rw [List.take_length]; simp
  | succ d ih =>
    intro k j out M hd hj hM hM2 hb hl
    have h1 := bnd_getD hx (by omega) i
    have h2 := bnd_getD hy (by omega) j
    have h3 := bnd_getD hb hM (i + j)
    have h4 : 0 ≤ xs.getD i 0 * ys.getD j 0 := Int.mul_nonneg h1.1 h2.1
    have h5 : xs.getD i 0 * ys.getD j 0 ≤ 9 * 9 := Int.mul_le_mul h1.2 h2.2 h2.1 (by omega)
    have e : (i : Int) + (j : Int) = ((i + j : Nat) : Int) := by omega
    have r1 : rd xs (i : Int) = xs.getD i 0 := rfl
    have r2 : rd ys (j : Int) = ys.getD j 0 := rfl
    have r3 : rd out ((i + j : Nat) : Int) = out.getD (i + j) 0 := rfl
    obtain ⟨out2, e1, e2, e3, e4⟩ := ih k (j + 1) (out.set (i + j) (out.getD (i + j) 0 + xs.getD i 0 * ys.getD j 0)) (M + 81) (by omega) (by omega) (by omega) (by omega) (bnd_set hb _ _ (by omega) (by omega) (by omega)) (by rw [List.length_set]; exact hl)
    refine ⟨out2, ?_, fun y hy => by have := e2 y hy; omega, e3, ?_⟩
    · rw [← e1]
      rw [show k + (d + 1) + 1 = (k + d + 1) + 1 from by omega]
      generalize k + d + 1 = K
      conv => lhs; rw [gantlineref05_mul.l1]
      rw [if_pos (by omega), e, w64 (x := ((i + j : Nat) : Int)) (by omega) (by omega), if_pos (by omega), if_pos (by omega), if_pos (by omega), if_pos (by omega), if_pos (by omega), r1, r2, r3, w64 (x := xs.getD i 0 * ys.getD j 0) (by omega) (by omega), w64 (x := out.getD (i + j) 0 + xs.getD i 0 * ys.getD j 0) (by omega) (by omega), w64 (x := (j : Int) + 1) (by omega) (by omega), ntn]
      rfl
    · rw [e4, bv_set _ _ _ _ (by omega), bv_take_succ _ _ _ (by omega), Int.pow_add]
      grind
theorem rmul_outer (xs ys : List Int) (hx : Bnd 9 xs) (hy : Bnd 9 ys) (hnx : xs.length ≤ 1000) (hny : ys.length ≤ 1000) : ∀ (d k i : Nat) (out : List Int), xs.length - i = d → i ≤ xs.length → Bnd (100000 * i) out → out.length = xs.length + ys.length → (ys.length + 2) * d + 100000 < k →
    gantlineref05_mul.l0 k i xs ys out = some ⟨(decN (bv 10 out + (bv 10 xs - bv 10 (xs.take i)) * bv 10 ys).toNat).toArray⟩ := by
  intro d
  induction d with
  | zero =>
    intro k i out hd hi hb hl hk
    obtain ⟨k, rfl⟩ : ∃ q, k = q + 1 := ⟨k - 1, by omega⟩
    obtain rfl : i = xs.length := by omega
    rw [gantlineref05_mul.l0, if_neg (by omega), text_eq out (by omega) (fun y hy => by have := hb y hy; omega) k (by omega), Option.bind_some, List.take_length]
    simp
  | succ d ih =>
    intro k i out hd hi hb hl hk
    rw [Nat.mul_succ] at hk
    obtain ⟨q, rfl⟩ : ∃ q, k = (q + ys.length + 1) + 1 := ⟨k - ys.length - 2, by omega⟩
    obtain ⟨out2, e1, e2, e3, e4⟩ := rmul_inner xs ys i hx hy (by omega) hnx hny ys.length q 0 out (100000 * i) (by omega) (by omega) (by omega) (by omega) hb hl
    rw [show ((0 : Nat) : Int) = 0 from rfl] at e1
    rw [gantlineref05_mul.l0, if_pos (by omega), e1, ih q (i + 1) out2 (by omega) (by omega) (fun y hy => by have := e2 y hy; omega) e3 (by omega), e4, bv_take_succ _ _ _ (by omega)]
    simp only [List.take_zero, bv]
    congr 5
    grind
theorem ref_mul_eq (a b : ByteArray) (h : Fit a b) (k : Nat) (hk : 2000000 < k) : gantlineref05_mul.f k a b = some ⟨(decN (vA a * vA b)).toArray⟩ := by
  have la : (dL a.data.toList).length = a.size := by rw [dL_len, szl]
  have lb : (dL b.data.toList).length = b.size := by rw [dL_len, szl]
  have sa := h.sa
  have sb := h.sb
  unfold gantlineref05_mul.f
  rw [ref_digits_eq a (by omega) k (by omega), Option.bind_some, ref_digits_eq b (by omega) k (by omega), Option.bind_some]
  rw [show ((dL a.data.toList).length : Int) + ((dL b.data.toList).length : Int) = (((dL a.data.toList).length + (dL b.data.toList).length : Nat) : Int) from by omega, w64 (by omega) (by omega), if_pos (by omega), ntn, if_pos (by omega)]
  have h1 : ((dL b.data.toList).length + 2) * (dL a.data.toList).length ≤ 802 * 800 := Nat.mul_le_mul (by omega) (by omega)
  have := rmul_outer (dL a.data.toList) (dL b.data.toList) (dL_small _ h.da) (dL_small _ h.db) (by omega) (by omega) (dL a.data.toList).length k 0 (List.replicate ((dL a.data.toList).length + (dL b.data.toList).length) 0) (by omega) (by omega) (bnd_rep _ _ (by omega)) (by simp) (by omega)
  rw [show ((0 : Nat) : Int) = 0 from rfl] at this
  rw [this]
  simp only [List.take_zero, bv_replicate, dL_val _ _ rfl h.da, dL_val _ _ rfl h.db]
  congr 4
  simp only [bv, vA]
  rw [Int.zero_add, Int.sub_zero, ← Int.natCast_mul, Int.toNat_natCast]
theorem ref_Mul_j0 (a b : ByteArray) (h : Fit a b) (k : Nat) (hk : 2000001 < k) : gantlineref05_Mul.j0 k a b false = some (shortN (vA a * vA b)) := by
  obtain ⟨k, rfl⟩ : ∃ q, k = q + 1 := ⟨k - 1, by omega⟩
  rw [gantlineref05_Mul.j0, if_neg (by simp), ref_mul_eq a b h k (by omega), Option.bind_some, ref_short_eq, Option.bind_some]
end Go.Proofs.YtfndkpifgmcomaaDoor.Q
