/- The plain law of NatSums. -/
import Derived.Test.YtfndkpifgmcomaaDoorX29
import Derived.Test.YtfndkpifgmcomaaDoorQNat
namespace Go.Proofs.YtfndkpifgmcomaaDoor.Q
open Go.RowKit Go.Proofs.YtfndkpifgmcomaaDoor.XD Go.Proofs.YtfndkpifgmcomaaDoorW.PrintWords Go.Proofs.YtfndkpifgmcomaaDoorW.PrintLast Go.Proofs.YtfndkpifgmcomaaDoorW.PrintMore
open Go.Proofs.YtfndkpifgmcomaaDoor.QNum (bv bv_append bv_set bv_nonneg bv_replicate bv_lt isNum isNum_iff vN decN num_eq decN_len vN_lt)
set_option linter.unusedVariables false

theorem ref_Order_eq (a b : ByteArray) (ha : a.size ≤ 140737488351232) (hb : b.size ≤ 140737488351232) (k : Nat) (hk : 3000000 < k) : gantlineref05_Order.f k a b = nat_Order.f a b := by
  unfold gantlineref05_Order.f nat_Order.f
  rw [ref_Right_eq a ha k (by omega), ref_Right_eq b hb k (by omega), nat_Right_eq a ha, nat_Right_eq b hb, ref_order_eq a b k (by omega), nat_order_eq]
theorem nat_Order_some (a b : ByteArray) (ha : a.size ≤ 140737488351232) (hb : b.size ≤ 140737488351232) : ∃ r, nat_Order.f a b = some r := by
  unfold nat_Order.f
  rw [nat_Right_eq a ha, nat_Right_eq b hb, nat_order_eq]
  cases okS a <;> cases okS b <;> exact ⟨_, rfl⟩
theorem ref_Add_eq (a b : ByteArray) (ha : a.size ≤ 140737488351232) (hb : b.size ≤ 140737488351232) (k : Nat) (hk : 3000000 < k) :
    gantlineref05_Add.f k a b = some (if okS a && okS b then shortN (vA a + vA b) else (⟨#[]⟩, 1)) := by
  have hj : gantlineref05_Add.j0 k a b true = some (⟨#[]⟩, 1) := by
    obtain ⟨k, rfl⟩ : ∃ q, k = q + 1 := ⟨k - 1, by omega⟩
    rw [gantlineref05_Add.j0, if_pos rfl]
  unfold gantlineref05_Add.f
  rw [ref_Right_eq a ha k (by omega), ref_Right_eq b hb k (by omega), Option.bind_some, Option.bind_some]
  cases h1 : okS a
  · rw [if_neg (by simp)]; exact hj
  · cases h2 : okS b
    · rw [if_pos rfl]; exact hj
    · rw [if_pos rfl]; exact ref_Add_j0 a b (okS_fit h1 h2) k (by omega)
theorem ref_Mul_eq (a b : ByteArray) (ha : a.size ≤ 140737488351232) (hb : b.size ≤ 140737488351232) (k : Nat) (hk : 3000000 < k) :
    gantlineref05_Mul.f k a b = some (if okS a && okS b then shortN (vA a * vA b) else (⟨#[]⟩, 1)) := by
  have hj : gantlineref05_Mul.j0 k a b true = some (⟨#[]⟩, 1) := by
    obtain ⟨k, rfl⟩ : ∃ q, k = q + 1 := ⟨k - 1, by omega⟩
    rw [gantlineref05_Mul.j0, if_pos rfl]
  unfold gantlineref05_Mul.f
  rw [ref_Right_eq a ha k (by omega), ref_Right_eq b hb k (by omega), Option.bind_some, Option.bind_some]
  cases h1 : okS a
  · rw [if_neg (by simp)]; exact hj
  · cases h2 : okS b
    · rw [if_pos rfl]; exact hj
    · rw [if_pos rfl]; exact ref_Mul_j0 a b (okS_fit h1 h2) k (by omega)
theorem short_small {v k : Nat} (h : v < 10 ^ k) (h0 : 0 < k) (h1 : k ≤ 800) : shortN v = (⟨(decN v).toArray⟩, 0) := by
  unfold shortN
  have := decN_len v k h h0
  rw [if_neg (by omega)]
theorem ref_Sub_eq (a b : ByteArray) (ha : a.size ≤ 140737488351232) (hb : b.size ≤ 140737488351232) (k : Nat) (hk : 3000000 < k) :
    gantlineref05_Sub.f k a b = some (if okS a && okS b && !decide (vA a < vA b) then shortN (vA a - vA b) else (⟨#[]⟩, 1)) := by
  have hj : gantlineref05_Sub.j0 k a b true = some (⟨#[]⟩, 1) := by
    obtain ⟨k, rfl⟩ : ∃ q, k = q + 1 := ⟨k - 1, by omega⟩
    rw [gantlineref05_Sub.j0, if_pos rfl]
  unfold gantlineref05_Sub.f
  rw [ref_Right_eq a ha k (by omega), ref_Right_eq b hb k (by omega), Option.bind_some, Option.bind_some, ref_order_eq a b k (by omega), Option.bind_some]
  cases h1 : okS a
  · rw [if_neg (by simp)]; exact hj
  · cases h2 : okS b
    · rw [if_pos rfl, if_neg (by simp)]; exact hj
    · have hf := okS_fit h1 h2
      obtain ⟨ho, hs⟩ := ord_val a b hf.na hf.nb
      rw [if_pos rfl, if_pos rfl]
      by_cases hlt : vA a < vA b
      · rw [decide_eq_true (ho.2 hlt), decide_eq_true hlt, hj]
        rfl
      · have hn : ¬ ordS a b < 0 := fun h => hlt (ho.1 h)
        have hsz : b.size ≤ a.size := hs.resolve_left hn
        rw [decide_eq_false hn, decide_eq_false hlt, ref_Sub_j0 a b hf hsz (by omega) k (by omega)]
        have hv := vN_lt a.data.toList.length a.data.toList rfl hf.da
        have sa := hf.sa
        rw [szl] at sa
        have hpos : 0 < a.data.toList.length := List.length_pos_iff.2 ((isNum_iff _).1 hf.na).2.1
        have : vA a - vA b < 10 ^ a.data.toList.length := Nat.lt_of_le_of_lt (Nat.sub_le _ _) hv
        rw [show (true && true && !false) = true from rfl, if_pos rfl, short_small this hpos sa]

/-! ### alive -/
theorem plus_eq (l : List Int) (h : Canon l) (hl : l.length ≤ 1000) (c : Int) (h0 : 0 ≤ c) (h1 : c ≤ 255) (k : Nat) (hk : 100000 < k) :
    ∃ r, nat_number_plus.f k l c = some r ∧ bv BB r = bv BB l + c ∧ Canon r ∧ r.length ≤ l.length + 3 := by
  unfold nat_number_plus.f
  by_cases he : (l.length : Int) = 0
  · obtain rfl : l = [] := List.eq_nil_of_length_eq_zero (by omega)
    obtain ⟨r, e1, e2, e3, e4⟩ := carry_eq [c] (by simp) (fun y hy => by
      have hy : y = c := by simpa using hy
      omega) k (by simp; omega)
    rw [if_pos he, e1]
    exact ⟨r, rfl, by rw [e2]; simp [bv], e3, by simpa using e4⟩
  · rw [if_neg he]
    have hu : nat_number_uint64.f l = some l := by unfold nat_number_uint64.f; rw [if_pos (by omega)]
    have hlim : Lim l := h.small
    have h2 := lim_getD hlim 0
    have r1 : rd l 0 = l.getD 0 0 := rfl
    rw [hu, Option.bind_some, if_pos (by omega), r1, wu (by omega) (by omega)]
    obtain ⟨r, e1, e2, e3, e4⟩ := carry_eq (l.set ((0 : Int)).toNat (l.getD 0 0 + c)) (by rw [List.length_set]; omega) (fun y hy => by
      rcases List.mem_or_eq_of_mem_set hy with hy | rfl
      · have := h.small y hy; omega
      · omega) k (by rw [List.length_set]; omega)
    rw [e1]
    refine ⟨r, rfl, ?_, e3, by rw [List.length_set] at e4; omega⟩
    rw [e2]
    show bv BB (l.set 0 (l.getD 0 0 + c)) = _
    rw [bv_set _ _ _ _ (by omega)]
    simp
    omega
theorem canon_nil : Canon [] := ⟨fun y hy => by simp at hy, fun q c e => by simp at e⟩
theorem frombytes (k : Nat) (hk : 3000100 < k) : nat_FromBytes.f k [1, 0] = some (shortN 256) := by
  obtain ⟨k, rfl⟩ : ∃ q, k = q + 1 + 1 + 1 := ⟨k - 3, by omega⟩
  have l256 : Lim [256] := fun y hy => by
    have hy : y = 256 := by simpa using hy
    omega
  obtain ⟨r1, a1, a2, a3, a4⟩ := times_eq [] [256] (fun y hy => by cases hy) l256 (by simp) (k + 1 + 1) (by omega)
  have b1 : bv BB r1 = 0 := by rw [a3]; simp [bv]
  obtain ⟨r2, b2, b3, b4, b5⟩ := plus_eq r1 a2 (by simp at a4; omega) 1 (by omega) (by omega) (k + 1 + 1) (by omega)
  obtain ⟨r3, c1, c2, c3, c4⟩ := times_eq r2 [256] b4.small l256 (by simp at a4 ⊢; omega) (k + 1) (by omega)
  obtain ⟨r4, d1, d2, d3, d4⟩ := plus_eq r3 c2 (by simp at a4 c4; omega) 0 (by omega) (by omega) (k + 1) (by omega)
  have hv : bv BB r4 = 256 := by rw [d2, c3, b3, b1]; simp [bv]
  have hs := short_eq r4 (by simp at a4 c4; omega) (fun y hy => by have := d3.small y hy; omega) k (by omega)
  rw [hv] at hs
  unfold nat_FromBytes.f
  rw [if_neg (by simp)]
  simp only [List.length_cons, List.length_nil]
  rw [nat_FromBytes.l0, if_pos (by omega), if_pos (by omega), if_pos (by simp), a1, Option.bind_some]
  rw [show IntKind.u64.wrap (rd [1, 0] 0) = 1 from by decide, b2, Option.bind_some, show wrap64 (0 + 1) = 1 from w64 (by omega) (by omega)]
  rw [nat_FromBytes.l0, if_pos (by omega), if_pos (by omega), if_pos (by simp), c1, Option.bind_some]
  rw [show IntKind.u64.wrap (rd [1, 0] 1) = 0 from by decide, d1, Option.bind_some, show wrap64 (1 + 1) = 2 from w64 (by omega) (by omega)]
  rw [nat_FromBytes.l0, if_neg (by omega), hs]
  rfl
theorem shown {v : Nat} {l : List UInt8} (h : isNum l = true) (hv : vN l = v) (hl : l.length ≤ 800) : shortN v = (⟨l.toArray⟩, 0) := by
  unfold shortN
  rw [← num_eq h hv, if_neg (by omega)]
theorem alive_eq (k : Nat) (hk : 4000000 < k) : gantlinelaw05_alive.f k = some true := by
  unfold gantlinelaw05_alive.f
  have h9 : (ByteArray.mk #[57, 57, 57]).size ≤ 140737488351232 := by decide
  have ok9 : okS (ByteArray.mk #[57, 57, 57]) = true := by decide
  have v9 : vA (ByteArray.mk #[57, 57, 57]) = 999 := by decide
  rw [nat_Mul_eq _ _ h9 h9 k (by omega), ok9, v9, frombytes k (by omega), Option.bind_some, Option.bind_some]
  rw [nat_Right_eq (ByteArray.mk #[48]) (by decide), nat_Right_eq (ByteArray.mk #[48, 49]) (by decide)]
  rw [show okS (ByteArray.mk #[48]) = true from by decide, show okS (ByteArray.mk #[48, 49]) = false from by decide]
  rw [show (if (true && true) = true then shortN (999 * 999) else ((⟨#[]⟩ : ByteArray), (1 : Int))) = shortN 998001 from rfl]
  rw [shown (v := 998001) (l := [57, 57, 56, 48, 48, 49]) (by decide) (by decide) (by decide)]
  rw [shown (v := 256) (l := [50, 53, 54]) (by decide) (by decide) (by decide)]
  simp only [ByteArray.toList_eq]
  rfl
end Go.Proofs.YtfndkpifgmcomaaDoor.Q
namespace Go.Proofs.YtfndkpifgmcomaaDoor.Pure
open Go.RowKit Go.Proofs.YtfndkpifgmcomaaDoor.XD Go.Proofs.YtfndkpifgmcomaaDoorW.PrintWords Go.Proofs.YtfndkpifgmcomaaDoorW.PrintLast Q
theorem NatSums : gantlinelaw05_NatSums.Pure := by
  intro a b ha hb
  refine ⟨5000000, ?_⟩
  obtain ⟨r, hr⟩ := nat_Order_some a b ha hb
  unfold gantlinelaw05_NatSums.f
  rw [ref_Order_eq a b ha hb _ (by omega), hr, nat_Add_eq a b ha hb _ (by omega), ref_Add_eq a b ha hb _ (by omega), nat_Sub_eq a b ha hb _ (by omega), ref_Sub_eq a b ha hb _ (by omega), nat_Mul_eq a b ha hb _ (by omega), ref_Mul_eq a b ha hb _ (by omega), nat_Right_eq a ha, ref_Right_eq a ha _ (by omega), alive_eq _ (by omega)]
  simp only [Option.bind_some, if_true, beq_self_eq_true]
end Go.Proofs.YtfndkpifgmcomaaDoor.Pure
