/- What the program's Add, Sub and Mul compute. -/
import Derived.Test.YtfndkpifgmcomaaDoorX20
import Derived.Test.YtfndkpifgmcomaaDoorQRef
import Derived.Test.YtfndkpifgmcomaaDoorQDigits
namespace Go.Proofs.YtfndkpifgmcomaaDoor.Q
open Go.RowKit Go.Proofs.YtfndkpifgmcomaaDoor.XD Go.Proofs.YtfndkpifgmcomaaDoorW.PrintWords Go.Proofs.YtfndkpifgmcomaaDoorW.PrintLast Go.Proofs.YtfndkpifgmcomaaDoorW.PrintMore
open Go.Proofs.YtfndkpifgmcomaaDoor.QNum (bv bv_append bv_set bv_nonneg bv_replicate bv_lt isNum isNum_iff vN decN)
set_option linter.unusedVariables false

theorem short_eq (l : List Int) (hn : l.length ≤ 100000) (hs : ∀ y ∈ l, 0 ≤ y ∧ y ≤ 9223372036854775807) (k : Nat) (hk : 300000 < k) :
    nat_number_short.f k l = some (shortN (bv BB l).toNat) := by
  obtain ⟨ys, e1, e2, e3, e4⟩ := carry_eq l (by omega) hs k (by omega)
  unfold nat_number_short.f
  rw [e1, Option.bind_some, digits_eq ys e3 (by omega), Option.bind_some, e2, szl]
  show (if (((decN (bv BB l).toNat).length : Nat) : Int) > 800 then _ else _) = _
  unfold shortN
  by_cases h : 800 < (decN (bv BB l).toNat).length
  · rw [if_pos (by omega), if_pos h]
  · rw [if_neg (by omega), if_neg h]
theorem all_same (s : ByteArray) (h : ∀ c ∈ s.data.toList, QNum.isDig c = true) : s.data.toList.all XD.isDig = true := by
  rw [List.all_eq_true]
  exact fun c hc => h c hc
theorem nread {a b : ByteArray} (h : Fit a b) : ∃ xs, nat_read.f a = some xs ∧ bv BB xs = (vA a : Int) ∧ Lim xs ∧ xs.length ≤ 100 := by
  have sa := h.sa
  obtain ⟨xs, e1, e2, e3, e4⟩ := read_eq a (all_same a h.da) (by omega)
  exact ⟨xs, e1, e2, e3, by omega⟩
theorem Fit.symm {a b : ByteArray} (h : Fit a b) : Fit b a := ⟨h.nb, h.na, h.sb, h.sa⟩
theorem both_j0 (a b : ByteArray) (k : Nat) (hk : 0 < k) {xs ys : List Int} (h1 : nat_read.f a = some xs) (h2 : nat_read.f b = some ys) : nat_both.j0 k a b false = some (xs, ys, true) := by
  obtain ⟨k, rfl⟩ : ∃ q, k = q + 1 := ⟨k - 1, by omega⟩
  rw [nat_both.j0, if_neg (by simp), h1, Option.bind_some, h2, Option.bind_some]
theorem bv_len (B : Int) : ∀ (xs : List Int) (n : Nat), xs.length ≤ n → xs.take n = xs := fun xs n h => List.take_of_length_le h
theorem nadd_l0 (ys : List Int) (hy : Lim ys) (hn : ys.length ≤ 1000) : ∀ (d k i : Nat) (x : List Int), ys.length - i = d → i ≤ ys.length → ys.length ≤ x.length → x.length ≤ 10000 → Bnd (1000000000 + 1000000000 * i) x → d + 400000 < k →
    nat_Add.l0 k x ys (ys.length : Int) i = some (shortN (bv BB x + (bv BB ys - bv BB (ys.take i))).toNat) := by
  intro d
  induction d with
  | zero =>
    intro k i x hd hi hl hl2 hb hk
    obtain ⟨k, rfl⟩ : ∃ q, k = q + 1 := ⟨k - 1, by omega⟩
    obtain rfl : i = ys.length := by omega
    rw [nat_Add.l0, if_neg (by omega), short_eq x (by omega) (fun y hy => by have := hb y hy; omega) k (by omega), Option.bind_some, List.take_length]
    rw [show bv BB x + (bv BB ys - bv BB ys) = bv BB x from by omega]
  | succ d ih =>
    intro k i x hd hi hl hl2 hb hk
    obtain ⟨k, rfl⟩ : ∃ q, k = q + 1 := ⟨k - 1, by omega⟩
    have h1 := lim_getD hy i
    have h2 := bnd_getD hb (by omega) i
    have r1 : rd ys (i : Int) = ys.getD i 0 := rfl
    have r2 : rd x (i : Int) = x.getD i 0 := rfl
    rw [nat_Add.l0, if_pos (by omega), if_pos (by omega), if_pos (by omega), if_pos (by omega), r1, r2, w64 (by omega) (by omega), wu (x := x.getD i 0 + ys.getD i 0) (by omega) (by omega), ntn]
    rw [show (i : Int) + 1 = ((i + 1 : Nat) : Int) from rfl, ih k (i + 1) _ (by omega) (by omega) (by rw [List.length_set]; omega) (by rw [List.length_set]; omega) (bnd_set hb _ _ (by omega) (by omega) (by omega)) (by omega)]
    rw [bv_set _ _ _ _ (by omega), bv_take_succ _ _ _ (by omega)]
    congr 3
    grind
theorem nat_Add_j0 (x y : List Int) (hx : Lim x) (hy : Lim y) (hxl : x.length ≤ 100) (hyx : y.length ≤ x.length) (k : Nat) (hk : 1000000 < k) : nat_Add.j0 k x y = some (shortN (bv BB x + bv BB y).toNat) := by
  obtain ⟨k, rfl⟩ : ∃ q, k = q + 1 := ⟨k - 1, by omega⟩
  have := nadd_l0 y hy (by omega) y.length k 0 x (by omega) (by omega) hyx (by omega) (fun z hz => by have := hx z hz; omega) (by omega)
  rw [show ((0 : Nat) : Int) = 0 from rfl] at this
  rw [nat_Add.j0, this]
  simp only [List.take_zero, bv]
  congr 3
  omega

/-! ### Sub -/
theorem nsub_l0 (ys : List Int) (hy : Lim ys) (hn : ys.length ≤ 1000) : ∀ (d k i : Nat) (x : List Int) (o : Int), x.length - i = d → i ≤ x.length → x.length ≤ 1000 → Lim x → 0 ≤ o → o ≤ 1 → 0 ≤ bv BB x - (bv BB ys - bv BB (ys.take i)) - BB ^ i * o → d + 400000 < k →
    nat_Sub.l0 k x ys o (x.length : Int) i = some (shortN (bv BB x - (bv BB ys - bv BB (ys.take i)) - BB ^ i * o).toNat) := by
  intro d
  induction d with
  | zero =>
    intro k i x o hd hi hl hx h0 h1 hv hk
    obtain ⟨k, rfl⟩ : ∃ q, k = q + 1 := ⟨k - 1, by omega⟩
    obtain rfl : i = x.length := by omega
    rw [nat_Sub.l0, if_neg (by omega), short_eq x (by omega) (fun y hy => by have := hx y hy; omega) k (by omega), Option.bind_some]
    -- nothing is left of y, and nothing is owed
    have hlt := bv_lt BB (by unfold BB; omega) x (fun y hy => by have := hx y hy; unfold BB; omega)
    have hsplit : bv BB ys = bv BB (ys.take x.length) + BB ^ x.length * bv BB (ys.drop x.length) := by
      rcases Nat.lt_or_ge x.length ys.length with h | h
      · conv => lhs; rw [← List.take_append_drop x.length ys, bv_append, List.length_take, Nat.min_eq_left (by omega)]
      · rw [List.take_of_length_le h, List.drop_eq_nil_of_le h]; simp [bv]
    have hge := bv_nonneg BB (by unfold BB; omega) (ys.drop x.length) (fun y hy' => (hy y (List.mem_of_mem_drop hy')).1)
    rw [hsplit] at hv ⊢
    generalize bv BB (ys.drop x.length) = Q at *
    have hq : Q + o ≤ 0 := by
      by_cases h : 0 < Q + o
      · have h2 : BB ^ x.length * 1 ≤ BB ^ x.length * (Q + o) := Int.mul_le_mul_of_nonneg_left (by omega) (Int.le_of_lt (BBpow_pos _))
        rw [Int.mul_add] at h2
        omega
      · omega
    obtain rfl : Q = 0 := by omega
    obtain rfl : o = 0 := by omega
    rw [Int.mul_zero, Int.add_zero, Int.sub_self, Int.sub_zero, Int.sub_zero]
  | succ d ih =>
    intro k i x o hd hi hl hx h0 h1 hv hk
    obtain ⟨k, rfl⟩ : ∃ q, k = q + 1 := ⟨k - 1, by omega⟩
    have h2 := lim_getD hy i
    have h3 := lim_getD hx i
    have r1 : rd ys (i : Int) = ys.getD i 0 := rfl
    have r2 : ∀ z : List Int, rd z (i : Int) = z.getD i 0 := fun z => rfl
    -- the step, as one: owed is o + y_i, where y has no place i that is 0
    have hty : bv BB (ys.take (i + 1)) = bv BB (ys.take i) + BB ^ i * ys.getD i 0 := by
      rcases Nat.lt_or_ge i ys.length with h | h
      · exact bv_take_succ BB ys i h
      · rw [List.take_of_length_le (by omega), List.take_of_length_le h, List.getD_eq_getElem?_getD, List.getElem?_eq_none h]; simp
    have step : ∀ v o2 : Int, v = x.getD i 0 - (o + ys.getD i 0) + 1000000000 * o2 → 0 ≤ v → v ≤ 999999999 → 0 ≤ o2 → o2 ≤ 1 →
        nat_Sub.l0 k (x.set i v) ys o2 (x.length : Int) ((i + 1 : Nat) : Int) = some (shortN (bv BB x - (bv BB ys - bv BB (ys.take i)) - BB ^ i * o).toNat) := by
      intro v o2 hv2 hv0 hv1 ho0 ho1
      have hval : bv BB (x.set i v) - (bv BB ys - bv BB (ys.take (i + 1))) - BB ^ (i + 1) * o2 = bv BB x - (bv BB ys - bv BB (ys.take i)) - BB ^ i * o := by
        have hv3 : v = x.getD i 0 - (o + ys.getD i 0) + BB * o2 := by unfold BB; exact hv2
        rw [bv_set _ _ _ _ (by omega), hty, Int.pow_succ, hv3]
        grind
      have := ih k (i + 1) (x.set i v) o2 (by rw [List.length_set]; omega) (by rw [List.length_set]; omega) (by rw [List.length_set]; omega) (lim_set hx _ _ hv0 hv1) ho0 ho1 (by rw [hval]; exact hv) (by omega)
      rw [List.length_set, hval] at this
      exact this
    rw [nat_Sub.l0, if_pos (by omega), w64 (x := (i : Int) + 1) (by omega) (by omega), ntn, show (i : Int) + 1 = ((i + 1 : Nat) : Int) from rfl]
    have hset : ∀ v w : Int, (x.set i v).set i w = x.set i w := fun v w => List.set_set _
    have hget : ∀ v : Int, (x.set i v).getD i 0 = v := fun v => by rw [getD_set' _ _ _ _ (by omega), if_pos rfl]
    by_cases hyi : (i : Int) < (ys.length : Int)
    · rw [if_pos hyi, if_pos (by omega), if_pos (by omega), r1, r2, wu (x := o + ys.getD i 0) (by omega) (by omega)]
      by_cases hc : x.getD i 0 < o + ys.getD i 0
      · rw [if_pos hc, Option.bind_some, wu (x := x.getD i 0 + 1000000000) (by omega) (by omega), r2, hget, wu (by omega) (by omega), hset]
        exact step _ 1 (by omega) (by omega) (by omega) (by omega) (by omega)
      · rw [if_neg hc, wu (by omega) (by omega)]
        exact step _ 0 (by omega) (by omega) (by omega) (by omega) (by omega)
    · have hy0 : ys.getD i 0 = 0 := by rw [List.getD_eq_getElem?_getD, List.getElem?_eq_none (by omega)]; rfl
      rw [hy0] at step
      rw [if_neg hyi, if_pos (by omega), if_pos (by omega), r2]
      by_cases hc : x.getD i 0 < o
      · rw [if_pos hc, Option.bind_some, wu (x := x.getD i 0 + 1000000000) (by omega) (by omega), r2, hget, wu (by omega) (by omega), hset]
        exact step _ 1 (by omega) (by omega) (by omega) (by omega) (by omega)
      · rw [if_neg hc, wu (by omega) (by omega)]
        exact step _ 0 (by omega) (by omega) (by omega) (by omega) (by omega)
theorem nat_Sub_j0 (x y : List Int) (hx : Lim x) (hy : Lim y) (hxl : x.length ≤ 100) (hyl : y.length ≤ 100) (hv : bv BB y ≤ bv BB x) (k : Nat) (hk : 1000000 < k) : nat_Sub.j0 k x y false = some (shortN (bv BB x - bv BB y).toNat) := by
  obtain ⟨k, rfl⟩ : ∃ q, k = q + 1 := ⟨k - 1, by omega⟩
  have := nsub_l0 y hy (by omega) x.length k 0 x 0 (by omega) (by omega) (by omega) hx (by omega) (by omega) (by simp only [List.take_zero, bv]; omega) (by omega)
  rw [show ((0 : Nat) : Int) = 0 from rfl] at this
  rw [nat_Sub.j0, if_neg (by simp), this]
  simp only [List.take_zero, bv]
  congr 3
  omega

/-! ### the four, of fit texts and of others -/
theorem okS_fit {a b : ByteArray} (ha : okS a = true) (hb : okS b = true) : Fit a b := by
  unfold okS at ha hb
  rw [Bool.and_eq_true, decide_eq_true_eq] at ha hb
  exact ⟨ha.1, hb.1, ha.2, hb.2⟩
theorem both_eq (a b : ByteArray) (ha : a.size ≤ 140737488351232) (hb : b.size ≤ 140737488351232) (k : Nat) (hk : 0 < k) :
    (Fit a b → ∃ xs ys, nat_both.f k a b = some (xs, ys, true) ∧ bv BB xs = (vA a : Int) ∧ bv BB ys = (vA b : Int) ∧ Lim xs ∧ Lim ys ∧ xs.length ≤ 100 ∧ ys.length ≤ 100) ∧
    ((okS a && okS b) = false → nat_both.f k a b = some ([], [], false)) := by
  have hj : nat_both.j0 k a b true = some ([], [], false) := by
    obtain ⟨k, rfl⟩ : ∃ q, k = q + 1 := ⟨k - 1, by omega⟩
    rw [nat_both.j0, if_pos rfl]
  unfold nat_both.f
  rw [nat_Right_eq a ha, nat_Right_eq b hb, Option.bind_some, Option.bind_some]
  constructor
  · intro h
    obtain ⟨xs, e1, e2, e3, e4⟩ := nread h
    obtain ⟨ys, f1, f2, f3, f4⟩ := nread h.symm
    have oa : okS a = true := by unfold okS; rw [h.na, decide_eq_true h.sa]; rfl
    have ob : okS b = true := by unfold okS; rw [h.nb, decide_eq_true h.sb]; rfl
    refine ⟨xs, ys, ?_, e2, f2, e3, f3, e4, f4⟩
    rw [oa, ob, if_pos rfl]
    exact both_j0 a b k hk e1 f1
  · intro h
    cases h1 : okS a
    · rw [if_neg (by simp)]; exact hj
    · rw [h1, Bool.true_and] at h
      rw [if_pos rfl, h]; exact hj
theorem nat_Add_eq (a b : ByteArray) (ha : a.size ≤ 140737488351232) (hb : b.size ≤ 140737488351232) (k : Nat) (hk : 3000000 < k) :
    nat_Add.f k a b = some (if okS a && okS b then shortN (vA a + vA b) else (⟨#[]⟩, 1)) := by
  obtain ⟨h1, h2⟩ := both_eq a b ha hb k (by omega)
  unfold nat_Add.f
  cases h : (okS a && okS b)
  · rw [h2 h]; rfl
  · rw [Bool.and_eq_true] at h
    obtain ⟨xs, ys, e1, e2, e3, e4, e5, e6, e7⟩ := h1 (okS_fit h.1 h.2)
    rw [e1, Option.bind_some]
    simp only [if_true]
    by_cases hl : (xs.length : Int) < (ys.length : Int)
    · rw [if_pos hl, nat_Add_j0 ys xs e5 e4 e7 (by omega) k (by omega), e2, e3]
      congr 2; omega
    · rw [if_neg hl, nat_Add_j0 xs ys e4 e5 e6 (by omega) k (by omega), e2, e3]
      congr 2
theorem nat_Mul_eq (a b : ByteArray) (ha : a.size ≤ 140737488351232) (hb : b.size ≤ 140737488351232) (k : Nat) (hk : 3000000 < k) :
    nat_Mul.f k a b = some (if okS a && okS b then shortN (vA a * vA b) else (⟨#[]⟩, 1)) := by
  obtain ⟨h1, h2⟩ := both_eq a b ha hb k (by omega)
  unfold nat_Mul.f
  cases h : (okS a && okS b)
  · rw [h2 h]; rfl
  · rw [Bool.and_eq_true] at h
    obtain ⟨xs, ys, e1, e2, e3, e4, e5, e6, e7⟩ := h1 (okS_fit h.1 h.2)
    obtain ⟨r, f1, f2, f3, f4⟩ := times_eq xs ys e4 e5 (by omega) k (by omega)
    rw [e1, Option.bind_some]
    simp only [if_true]
    rw [f1, Option.bind_some, short_eq r (by omega) (fun y hy => by have := f2.small y hy; omega) k (by omega), Option.bind_some, f3, e2, e3, ← Int.natCast_mul, Int.toNat_natCast]
theorem nat_Sub_eq (a b : ByteArray) (ha : a.size ≤ 140737488351232) (hb : b.size ≤ 140737488351232) (k : Nat) (hk : 3000000 < k) :
    nat_Sub.f k a b = some (if okS a && okS b && !decide (vA a < vA b) then shortN (vA a - vA b) else (⟨#[]⟩, 1)) := by
  obtain ⟨h1, h2⟩ := both_eq a b ha hb k (by omega)
  have hj : ∀ x y, nat_Sub.j0 k x y true = some (⟨#[]⟩, 1) := by
    intro x y
    obtain ⟨k, rfl⟩ : ∃ q, k = q + 1 := ⟨k - 1, by omega⟩
    rw [nat_Sub.j0, if_pos rfl]
  unfold nat_Sub.f
  cases h : (okS a && okS b)
  · rw [h2 h, Option.bind_some]
    simp only [Bool.false_eq_true, if_false, Bool.false_and]
    exact hj _ _
  · rw [Bool.and_eq_true] at h
    have hf := okS_fit h.1 h.2
    obtain ⟨xs, ys, e1, e2, e3, e4, e5, e6, e7⟩ := h1 hf
    have ho := (ord_val a b hf.na hf.nb).1
    rw [e1, Option.bind_some, nat_order_eq, Option.bind_some]
    simp only [if_true, Bool.true_and]
    by_cases hlt : vA a < vA b
    · rw [decide_eq_true (ho.2 hlt), decide_eq_true hlt, hj]
      rfl
    · rw [decide_eq_false (fun h => hlt (ho.1 h)), decide_eq_false hlt, nat_Sub_j0 xs ys e4 e5 e6 e7 (by omega) k (by omega), e2, e3]
      simp only [Bool.not_false, if_true]
      congr 2; omega
end Go.Proofs.YtfndkpifgmcomaaDoor.Q
