/- What number.times computes: the product. -/
import Derived.Test.YtfndkpifgmcomaaDoorX3
import Derived.Test.YtfndkpifgmcomaaDoorQCarry
namespace Go.Proofs.YtfndkpifgmcomaaDoor.Q
open Go.RowKit Go.Proofs.YtfndkpifgmcomaaDoor.XD Go.Proofs.YtfndkpifgmcomaaDoorW.PrintWords Go.Proofs.YtfndkpifgmcomaaDoorW.PrintLast Go.Proofs.YtfndkpifgmcomaaDoorW.PrintMore
open Go.Proofs.YtfndkpifgmcomaaDoor.QNum (bv bv_append bv_set bv_nonneg bv_replicate bv_lt)
set_option linter.unusedVariables false

/-- Places that are no greater than they may be. -/
def Lim (xs : List Int) : Prop := ∀ y ∈ xs, 0 ≤ y ∧ y ≤ 999999999
theorem lim_getD {xs : List Int} (h : Lim xs) (i : Nat) : 0 ≤ xs.getD i 0 ∧ xs.getD i 0 ≤ 999999999 := by
  rw [List.getD_eq_getElem?_getD]
  rcases Nat.lt_or_ge i xs.length with hi | hi
  · rw [List.getElem?_eq_getElem hi]
    exact h _ (List.getElem_mem hi)
  · rw [List.getElem?_eq_none hi]
    exact ⟨by simp, by simp⟩
theorem lim_set {xs : List Int} (h : Lim xs) (i : Nat) (v : Int) (h0 : 0 ≤ v) (h1 : v ≤ 999999999) : Lim (xs.set i v) := by
  intro y hy
  rcases List.mem_or_eq_of_mem_set hy with hy | rfl
  · exact h y hy
  · exact ⟨h0, h1⟩
theorem getD_set' (x : List Int) (i t : Nat) (v : Int) (hi : i < x.length) : (x.set i v).getD t 0 = if t = i then v else x.getD t 0 := by
  simp only [List.getD_eq_getElem?_getD, List.getElem?_set]
  by_cases h : i = t
  · subst h; simp [hi]
  · simp [h, Ne.symm h]
theorem bv_take_succ (B : Int) (ys : List Int) (k : Nat) (hk : k < ys.length) : bv B (ys.take (k + 1)) = bv B (ys.take k) + B ^ k * ys.getD k 0 := by
  rw [List.take_succ_eq_append_getElem hk, bv_append, List.length_take, Nat.min_eq_left (by omega)]
  simp [bv, List.getD_eq_getElem?_getD, List.getElem?_eq_getElem hk]

theorem inner (xs ys : List Int) (i : Nat) (x : Int) (hx0 : 0 ≤ x) (hx1 : x ≤ 999999999) (hy : Lim ys) (hi : i + ys.length ≤ 1000000) :
    ∀ (d k kk : Nat) (out : List Int) (o : Int), ys.length - kk = d → kk ≤ ys.length → Lim out → 0 ≤ o → o ≤ 999999999 → i + ys.length < out.length →
    ∃ out2 o2, nat_number_times.l1 (k + d + 1) ys i x o out xs (xs.length : Int) i ys (ys.length : Int) kk = nat_number_times.l0 k ys (out2.set (i + ys.length) (IntKind.u64.wrap (out2.getD (i + ys.length) 0 + o2))) xs (xs.length : Int) (((i + 1 : Nat)) : Int) ∧
      Lim out2 ∧ out2.length = out.length ∧ 0 ≤ o2 ∧ o2 ≤ 999999999 ∧ (∀ j, i + ys.length ≤ j → out2.getD j 0 = out.getD j 0) ∧
      bv BB out2 + BB ^ (i + ys.length) * o2 = bv BB out + BB ^ (i + kk) * o + BB ^ i * (x * (bv BB ys - bv BB (ys.take kk))) := by
  intro d
  induction d with
  | zero =>
    intro k kk out o hd hk ho h0 h1 hl
    obtain rfl : kk = ys.length := by omega
    refine ⟨out, o, ?_, ho, rfl, h0, h1, fun j _ => rfl, by rw [List.take_length]; simp⟩
    simp only [nat_number_times.l1, Nat.add_zero]
    rw [if_neg (by omega)]
    have e : (i : Int) + (ys.length : Int) = ((i + ys.length : Nat) : Int) := by omega
    rw [e, w64 (by omega) (by omega), if_pos (by omega), if_pos (by omega), w64 (x := (i : Int) + 1) (by omega) (by omega)]
    congr 1
  | succ d ih =>
    intro k kk out o hd hk ho h0 h1 hl
    have hklt : kk < ys.length := by omega
    have hyk := lim_getD hy kk
    have hok := lim_getD ho (i + kk)
    have hxy0 : 0 ≤ x * ys.getD kk 0 := Int.mul_nonneg hx0 hyk.1
    have hxy1 : x * ys.getD kk 0 ≤ 999999999 * 999999999 := Int.mul_le_mul hx1 hyk.2 hyk.1 (by omega)
    have hu : nat_number_times.l1 (k + (d + 1) + 1) ys i x o out xs (xs.length : Int) i ys (ys.length : Int) kk =
        nat_number_times.l1 (k + d + 1) ys i x ((out.getD (i + kk) 0 + x * ys.getD kk 0 + o) / 1000000000) (out.set (i + kk) ((out.getD (i + kk) 0 + x * ys.getD kk 0 + o) % 1000000000)) xs (xs.length : Int) i ys (ys.length : Int) ((kk + 1 : Nat) : Int) := by
      rw [show k + (d + 1) + 1 = (k + d + 1) + 1 from by omega]
      generalize k + d + 1 = K
      conv => lhs; rw [nat_number_times.l1]
      have e : (i : Int) + (kk : Int) = ((i + kk : Nat) : Int) := by omega
      rw [if_pos (by omega), if_pos (by omega), if_pos (by omega), e, w64 (by omega) (by omega), if_pos (by omega), if_pos (by omega)]
      have r1 : rd ys (kk : Int) = ys.getD kk 0 := rfl
      have r2 : rd out ((i + kk : Nat) : Int) = out.getD (i + kk) 0 := rfl
      rw [r1, r2, wu hxy0 (by omega), wu (x := out.getD (i + kk) 0 + x * ys.getD kk 0) (by omega) (by omega), wu (x := out.getD (i + kk) 0 + x * ys.getD kk 0 + o) (by omega) (by omega), tdiv_ (by omega), tmod_ (by omega), wu (x := (out.getD (i + kk) 0 + x * ys.getD kk 0 + o) / 1000000000) (by omega) (by omega), w64 (x := (kk : Int) + 1) (by omega) (by omega)]
      rfl
    have ho1 : 0 ≤ (out.getD (i + kk) 0 + x * ys.getD kk 0 + o) / 1000000000 := by omega
    have ho2 : (out.getD (i + kk) 0 + x * ys.getD kk 0 + o) / 1000000000 ≤ 999999999 := by omega
    obtain ⟨out2, o2, e1, e2, e3, e4, e5, e6, e7⟩ := ih k (kk + 1) (out.set (i + kk) ((out.getD (i + kk) 0 + x * ys.getD kk 0 + o) % 1000000000)) ((out.getD (i + kk) 0 + x * ys.getD kk 0 + o) / 1000000000) (by omega) (by omega) (lim_set ho _ _ (by omega) (by omega)) ho1 ho2 (by rw [List.length_set]; exact hl)
    refine ⟨out2, o2, by rw [hu, e1], e2, by rw [e3, List.length_set], e4, e5, fun j hj => ?_, ?_⟩
    · rw [e6 j hj, getD_set' _ _ _ _ (by omega), if_neg (by omega)]
    · rw [e7, bv_set _ _ _ _ (by omega), bv_take_succ _ _ _ hklt]
      have h3 : (out.getD (i + kk) 0 + x * ys.getD kk 0 + o) % 1000000000 + 1000000000 * ((out.getD (i + kk) 0 + x * ys.getD kk 0 + o) / 1000000000) = out.getD (i + kk) 0 + x * ys.getD kk 0 + o := by omega
      generalize (out.getD (i + kk) 0 + x * ys.getD kk 0 + o) % 1000000000 = r at *
      generalize (out.getD (i + kk) 0 + x * ys.getD kk 0 + o) / 1000000000 = q at *
      rw [show i + (kk + 1) = (i + kk) + 1 from by omega, Int.pow_succ, Int.pow_add]
      have h5 : r = out.getD (i + kk) 0 + x * ys.getD kk 0 + o - BB * q := by unfold BB; omega
      rw [h5]
      grind

theorem outer (xs ys : List Int) (hx : Lim xs) (hy : Lim ys) (hn : xs.length + ys.length ≤ 100000) :
    ∀ (d k i : Nat) (out : List Int), xs.length - i = d → i ≤ xs.length → Lim out → out.length = xs.length + ys.length → (∀ j, i + ys.length ≤ j → out.getD j 0 = 0) → (ys.length + 2) * d + 400000 < k →
    ∃ r, nat_number_times.l0 k ys out xs (xs.length : Int) i = some r ∧ Canon r ∧ bv BB r = bv BB out + (bv BB xs - bv BB (xs.take i)) * bv BB ys ∧ r.length ≤ xs.length + ys.length + 2 := by
  intro d
  induction d with
  | zero =>
    intro k i out hd hi ho hl hz hk
    obtain rfl : i = xs.length := by omega
    obtain ⟨k, rfl⟩ : ∃ q, k = q + 1 := ⟨k - 1, by omega⟩
    simp only [nat_number_times.l0]
    rw [if_neg (by omega)]
    obtain ⟨r, e1, e2, e3, e4⟩ := carry_eq out (by omega) (fun y hy => by have := ho y hy; omega) k (by omega)
    rw [e1]
    exact ⟨r, rfl, e3, by rw [e2, List.take_length]; simp, by omega⟩
  | succ d ih =>
    intro k i out hd hi ho hl hz hk
    have hilt : i < xs.length := by omega
    have hxi := lim_getD hx i
    rw [Nat.mul_succ] at hk
    obtain ⟨q, rfl⟩ : ∃ q, k = (q + ys.length + 1) + 1 := ⟨k - ys.length - 2, by omega⟩
    simp only [nat_number_times.l0]
    rw [if_pos (by omega), if_pos (by omega), if_pos (by omega)]
    have r1 : rd xs (i : Int) = xs.getD i 0 := rfl
    rw [r1]
    obtain ⟨out2, o2, e1, e2, e3, e4, e5, e6, e7⟩ := inner xs ys i (xs.getD i 0) hxi.1 hxi.2 hy (by omega) ys.length q 0 out 0 (by omega) (by omega) ho (by omega) (by omega) (by omega)
    have hz2 : out2.getD (i + ys.length) 0 = 0 := by rw [e6 _ (Nat.le_refl _)]; exact hz _ (Nat.le_refl _)
    rw [show ((0 : Nat) : Int) = 0 from rfl] at e1
    rw [e1, hz2, wu (by omega) (by omega)]
    obtain ⟨r, f1, f2, f3, f4⟩ := ih q (i + 1) (out2.set (i + ys.length) (0 + o2)) (by omega) (by omega) (lim_set e2 _ _ (by omega) (by omega)) (by rw [List.length_set]; omega) (fun j hj => by
      rw [getD_set' _ _ _ _ (by omega), if_neg (by omega), e6 j (by omega)]
      exact hz j (by omega)) (by omega)
    refine ⟨r, f1, f2, ?_, f4⟩
    rw [f3, bv_set _ _ _ _ (by omega), hz2, bv_take_succ _ _ _ hilt]
    simp only [List.take_zero, bv, Nat.add_zero] at e7
    grind
/-- times: the product. -/
theorem times_eq (xs ys : List Int) (hx : Lim xs) (hy : Lim ys) (hn : xs.length + ys.length ≤ 1000) (k : Nat) (hk : 2000000 < k) :
    ∃ r, nat_number_times.f k xs ys = some r ∧ Canon r ∧ bv BB r = bv BB xs * bv BB ys ∧ r.length ≤ xs.length + ys.length + 2 := by
  unfold nat_number_times.f
  rw [show (xs.length : Int) + (ys.length : Int) = ((xs.length + ys.length : Nat) : Int) from by omega, w64 (by omega) (by omega), if_pos (by omega), if_pos (by omega)]
  have h1 : (ys.length + 2) * xs.length ≤ 1002 * 1000 := Nat.mul_le_mul (by omega) (by omega)
  obtain ⟨r, e1, e2, e3, e4⟩ := outer xs ys hx hy (by omega) xs.length k 0 (List.replicate (xs.length + ys.length) 0) (by omega) (by omega) (fun y hy => by rw [List.eq_of_mem_replicate hy]; omega) (by simp) (fun j _ => by
    rw [List.getD_eq_getElem?_getD, List.getElem?_replicate]
    split <;> rfl) (by omega)
  refine ⟨r, ?_, e2, ?_, e4⟩
  · rw [← e1]; rfl
  · rw [e3, bv_replicate]; simp [bv]
end Go.Proofs.YtfndkpifgmcomaaDoor.Q
