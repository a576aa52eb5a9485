/- What the reference's digits and text compute. -/
import Derived.Test.YtfndkpifgmcomaaDoorX9
import Derived.Test.YtfndkpifgmcomaaDoorQRight
import Derived.Test.YtfndkpifgmcomaaDoorQCarry
namespace Go.Proofs.YtfndkpifgmcomaaDoor.Q
open Go.RowKit Go.Proofs.YtfndkpifgmcomaaDoor.XD Go.Proofs.YtfndkpifgmcomaaDoorW.PrintWords Go.Proofs.YtfndkpifgmcomaaDoorW.PrintLast Go.Proofs.YtfndkpifgmcomaaDoorW.PrintMore
open Go.Proofs.YtfndkpifgmcomaaDoor.QNum (bv bv_append bv_nonneg isNum isNum_iff vN vN_snoc decN num_eq decN_lt)
set_option linter.unusedVariables false

def dg (c : UInt8) : Int := ((c.toNat : Int) - 48) % 256
/-- The digits of a text, the lowest first. -/
def dL (l : List UInt8) : List Int := l.reverse.map dg
theorem digits_l0 (s : ByteArray) (hs : s.size ≤ 1000000) : ∀ (n k : Nat) (x3 : List Int), n ≤ s.size → n < k → x3.length + n ≤ 1000000 →
    gantlineref05_digits.l0 k s x3 ((n : Int) - 1) = some (x3 ++ dL (s.data.toList.take n)) := by
  intro n
  induction n with
  | zero =>
    intro k x3 _ hk _
    obtain ⟨k, rfl⟩ : ∃ q, k = q + 1 := ⟨k - 1, by omega⟩
    rw [gantlineref05_digits.l0, if_neg (by omega)]
    simp [dL]
  | succ n ih =>
    intro k x3 hn hk hl
    obtain ⟨k, rfl⟩ : ∃ q, k = q + 1 := ⟨k - 1, by omega⟩
    have hil : n < s.data.toList.length := by rw [← szl]; omega
    rw [show ((n + 1 : Nat) : Int) - 1 = (n : Int) from by omega]
    rw [gantlineref05_digits.l0, if_pos (by omega), if_pos (by omega), if_pos (by omega), if_pos (by omega), btl, w64r (by omega) (by omega), ih k _ (by omega) (by omega) (by rw [List.length_append, List.length_singleton]; omega)]
    rw [List.take_succ_eq_append_getElem hil]
    have e : s.data.toList.getD n 0 = s.data.toList[n] := by rw [List.getD_eq_getElem?_getD, List.getElem?_eq_getElem hil]; rfl
    rw [e]
    unfold dL
    rw [List.reverse_append]
    simp [dg]
theorem ref_digits_eq (s : ByteArray) (hs : s.size ≤ 1000000) (k : Nat) (hk : 1000000 < k) : gantlineref05_digits.f k s = some (dL s.data.toList) := by
  unfold gantlineref05_digits.f
  rw [w64r (by omega) (by omega), digits_l0 s hs s.size k [] (by omega) (by omega) (by simpa using hs)]
  rw [szl, List.take_length]; rfl
theorem dL_len (l : List UInt8) : (dL l).length = l.length := by simp [dL]
theorem dg_eq {c : UInt8} (h : QNum.isDig c = true) : dg c = (c.toNat : Int) - 48 := by
  have := (QNum.isDig_iff c).1 h
  unfold dg; omega
theorem dL_small (l : List UInt8) (h : ∀ c ∈ l, QNum.isDig c = true) : ∀ y ∈ dL l, 0 ≤ y ∧ y ≤ 9 := by
  intro y hy
  obtain ⟨c, hc, rfl⟩ := List.mem_map.1 hy
  have hd := h c (List.mem_reverse.1 hc)
  have := (QNum.isDig_iff c).1 hd
  rw [dg_eq hd]; omega
theorem dL_val : ∀ (n : Nat) (l : List UInt8), l.length = n → (∀ c ∈ l, QNum.isDig c = true) → bv 10 (dL l) = (vN l : Int) := by
  intro n
  induction n with
  | zero => intro l hl _; obtain rfl := List.eq_nil_of_length_eq_zero hl; rfl
  | succ n ih =>
    intro l hl hd
    have hne : l ≠ [] := by intro e; simp [e] at hl
    obtain ⟨q, c, rfl⟩ : ∃ q c, l = q ++ [c] := ⟨l.dropLast, l.getLast hne, (List.dropLast_concat_getLast hne).symm⟩
    have h1 := ih q (by simpa using hl) (fun c hc => hd c (List.mem_append_left _ hc))
    have hc := hd c (by simp)
    have := (QNum.isDig_iff c).1 hc
    have e : dL (q ++ [c]) = dg c :: dL q := by simp [dL]
    rw [e, vN_snoc, bv, h1, dg_eq hc]
    omega

/-! ### text -/
def bw (D : List Int) : Int := bv 10 (D.map fun d => d - 48)
def Dg (D : List Int) : Prop := ∀ d ∈ D, 48 ≤ d ∧ d ≤ 57
def u8 (n : Int) : UInt8 := UInt8.ofNat n.toNat
theorem u8_nat {n : Int} (h : 48 ≤ n ∧ n ≤ 57) : ((u8 n).toNat : Int) = n := by unfold u8; simp; omega
theorem bw_nonneg (D : List Int) (h : Dg D) : 0 ≤ bw D := by
  refine bv_nonneg 10 (by omega) _ fun x hx => ?_
  obtain ⟨d, hd, rfl⟩ := List.mem_map.1 hx
  have := h d hd
  omega
theorem vN_tx : ∀ (D : List Int), Dg D → ((vN (D.reverse.map u8) : Nat) : Int) = bw D
  | [], _ => rfl
  | d :: D, h => by
    have ih := vN_tx D (fun x hx => h x (List.mem_cons_of_mem _ hx))
    have hd := u8_nat (h d List.mem_cons_self)
    have hd2 := h d List.mem_cons_self
    rw [List.reverse_cons, List.map_append, List.map_cons, List.map_nil, vN_snoc]
    show _ = (d - 48) + 10 * bw D
    rw [← ih]
    omega
theorem tx_dig (D : List Int) (h : Dg D) : ∀ c ∈ D.reverse.map u8, QNum.isDig c = true := by
  intro c hc
  obtain ⟨d, hd, rfl⟩ := List.mem_map.1 hc
  have h1 := h d (List.mem_reverse.1 hd)
  have := u8_nat h1
  exact (QNum.isDig_iff _).2 (by omega)
theorem tx_eq (D : List Int) (h : Dg D) (hne : D ≠ []) (ht : D.length = 1 ∨ ∀ q d, D = q ++ [d] → d ≠ 48) : D.reverse.map u8 = decN (bw D).toNat := by
  refine num_eq ((isNum_iff _).2 ⟨tx_dig D h, by simpa using hne, ?_⟩) (by have := vN_tx D h; omega)
  rcases ht with ht | ht
  · exact .inl (by simpa using ht)
  · right
    obtain ⟨q, c, rfl⟩ : ∃ q c, D = q ++ [c] := ⟨D.dropLast, D.getLast hne, (List.dropLast_concat_getLast hne).symm⟩
    have h1 := ht q c rfl
    have h2 := u8_nat (h c (by simp))
    rw [List.reverse_append]
    simp only [List.reverse_cons, List.reverse_nil, List.nil_append, List.singleton_append, List.map_cons, List.head?_cons, ne_eq, Option.some.injEq]
    intro e
    rw [e] at h2
    exact h1 (by rw [← h2]; rfl)
def fin (z : List Int) : Option ByteArray := if (z.length : Int) = 0 then some ⟨#[48]⟩ else some (strOfNums z)
theorem l2_text (D : List Int) (hD : D.length ≤ 10000000) : ∀ (n k : Nat) (x6 : List Int), n ≤ D.length → n < k → x6.length + n ≤ 10000000 →
    gantlineref05_text.l2 k D x6 ((n : Int) - 1) = fin (x6 ++ (D.take n).reverse) := by
  intro n
  induction n with
  | zero =>
    intro k x6 _ hk _
    obtain ⟨k, rfl⟩ : ∃ q, k = q + 1 := ⟨k - 1, by omega⟩
    rw [gantlineref05_text.l2, if_neg (by omega)]
    simp [fin]
  | succ n ih =>
    intro k x6 hn hk hl
    obtain ⟨k, rfl⟩ : ∃ q, k = q + 1 := ⟨k - 1, by omega⟩
    have hil : n < D.length := by omega
    rw [show ((n + 1 : Nat) : Int) - 1 = (n : Int) from by omega]
    rw [gantlineref05_text.l2, if_pos (by omega), if_pos (by omega), if_pos (by omega), if_pos (by omega), w64r (by omega) (by omega), ih k _ (by omega) (by omega) (by rw [List.length_append, List.length_singleton]; omega)]
    rw [List.take_succ_eq_append_getElem hil, List.reverse_append]
    have e : rd D (n : Int) = D[n] := by unfold rd; rw [show ((n : Int)).toNat = n from by omega, List.getD_eq_getElem?_getD, List.getElem?_eq_getElem hil]; rfl
    rw [e]
    simp
theorem j3_text (D : List Int) (hD : D.length ≤ 10000000) (k : Nat) (hk : D.length + 1 < k) (h : Dg D) (ht : D = [] ∨ D.length = 1 ∨ ∀ q d, D = q ++ [d] → d ≠ 48) :
    gantlineref05_text.j3 k D = some ⟨(decN (bw D).toNat).toArray⟩ := by
  obtain ⟨k, rfl⟩ : ∃ q, k = q + 1 := ⟨k - 1, by omega⟩
  rw [gantlineref05_text.j3, w64r (by omega) (by omega), l2_text D hD D.length k [] (by omega) (by omega) (by simpa using hD), List.take_length, List.nil_append]
  unfold fin
  rcases ht with rfl | ht
  · rw [if_pos (by simp)]
    rw [show (bw ([] : List Int)).toNat = 0 from rfl, decN_lt (by omega)]
    rfl
  · by_cases hne : D = []
    · subst hne
      rw [if_pos (by simp)]
      rw [show (bw ([] : List Int)).toNat = 0 from rfl, decN_lt (by omega)]
      rfl
    · have h0 : D.length ≠ 0 := by intro e; exact hne (List.eq_nil_of_length_eq_zero e)
      rw [if_neg (by simp; exact hne), ← tx_eq D h hne ht]
      rfl
theorem bw_snoc (q : List Int) (d : Int) : bw (q ++ [d]) = bw q + 10 ^ q.length * (d - 48) := by
  unfold bw
  rw [List.map_append, bv_append, List.length_map]
  simp [bv]
theorem l1_text : ∀ (n k : Nat) (D : List Int), D.length = n → n ≤ 10000000 → Dg D → 2 * n + 4 < k →
    gantlineref05_text.l1 k D = some ⟨(decN (bw D).toNat).toArray⟩ := by
  intro n
  induction n with
  | zero =>
    intro k D hn _ hd hk
    obtain ⟨k, rfl⟩ : ∃ q, k = q + 1 := ⟨k - 1, by omega⟩
    obtain rfl := List.eq_nil_of_length_eq_zero hn
    rw [gantlineref05_text.l1, if_neg (by simp), j3_text [] (by simp) k (by simp; omega) hd (.inl rfl)]
  | succ n ih =>
    intro k D hn hb hd hk
    obtain ⟨k, rfl⟩ : ∃ q, k = q + 1 := ⟨k - 1, by omega⟩
    have hne : D ≠ [] := by intro e; simp [e] at hn
    obtain ⟨q, c, rfl⟩ : ∃ q c, D = q ++ [c] := ⟨D.dropLast, D.getLast hne, (List.dropLast_concat_getLast hne).symm⟩
    have hq : q.length = n := by simpa using hn
    by_cases h1 : n = 0
    · rw [gantlineref05_text.l1, if_neg (by omega), j3_text _ (by omega) k (by omega) hd (.inr (.inl (by omega)))]
    · have e1 : ((q ++ [c]).length : Int) - 1 = (q.length : Int) := by omega
      have e2 : rd (q ++ [c]) (q.length : Int) = c := by simp [rd]
      rw [gantlineref05_text.l1, if_pos (by omega), e1, w64r (by omega) (by omega), if_pos (by omega), if_pos (by omega), e2]
      by_cases hc : c = 48
      · subst hc
        rw [if_pos rfl, if_pos (by omega)]
        have e3 : (q ++ [48]).take ((q.length : Int)).toNat = q := by simp
        rw [e3, ih k q hq (by omega) (fun x hx => hd x (List.mem_append_left _ hx)) (by omega), bw_snoc]
        simp
      · rw [if_neg hc, j3_text _ (by omega) k (by omega) hd (.inr (.inr fun q' d' e => by
          have := (List.append_inj_right' e rfl)
          simp at this
          rw [← this]; exact hc))]
theorem tail_text (xs : List Int) : ∀ (m k : Nat) (o i : Int) (D : List Int), 0 ≤ o → o < 10 ^ m → o ≤ 1000000000000 → (xs.length : Int) ≤ i → i + m ≤ 10000000 → D.length + m ≤ 10000000 → Dg D → 2 * D.length + 5 * m + 10 < k →
    gantlineref05_text.l0 k xs o D i = some ⟨(decN (bw D + 10 ^ D.length * o).toNat).toArray⟩ := by
  intro m
  induction m with
  | zero =>
    intro k o i D h0 h1 h2 hi hi2 hl hd hk
    obtain ⟨k, rfl⟩ : ∃ q, k = q + 1 + 1 := ⟨k - 2, by omega⟩
    obtain rfl : o = 0 := by simp at h1; omega
    rw [gantlineref05_text.l0, if_neg (by omega), gantlineref05_text.j1, if_neg (by simp), l1_text D.length k D rfl (by omega) hd (by omega)]
    simp
  | succ m ih =>
    intro k o i D h0 h1 h2 hi hi2 hl hd hk
    obtain ⟨k, rfl⟩ : ∃ q, k = q + 1 + 1 := ⟨k - 2, by omega⟩
    rw [gantlineref05_text.l0, if_neg (by omega), gantlineref05_text.j1]
    by_cases ho : o > 0
    · rw [if_pos (by simpa using ho), if_neg (by omega), if_pos (by omega), tdiv_ h0, tmod_ h0, w64r (by omega) (by omega), w64r (x := 48 + o % 10) (by omega) (by omega), w64r (x := i + 1) (by omega) (by omega)]
      rw [show (48 + o % 10) % 256 = 48 + o % 10 from by omega]
      rw [Int.pow_succ] at h1
      rw [ih k (o / 10) (i + 1) (D ++ [48 + o % 10]) (by omega) (by omega) (by omega) (by omega) (by omega) (by rw [List.length_append, List.length_singleton]; omega) (fun d hd' => by
        rcases List.mem_append.1 hd' with h | h
        · exact hd d h
        · obtain rfl : d = 48 + o % 10 := by simpa using h
          omega) (by rw [List.length_append, List.length_singleton]; omega)]
      rw [bw_snoc, List.length_append, List.length_singleton, Int.pow_succ]
      have h3 : o % 10 + 10 * (o / 10) = o := by omega
      have h4 : o % 10 = o - 10 * (o / 10) := by omega
      rw [h4]
      have : bw D + 10 ^ D.length * (48 + (o - 10 * (o / 10)) - 48) + 10 ^ D.length * 10 * (o / 10) = bw D + 10 ^ D.length * o := by grind
      rw [this]
    · obtain rfl : o = 0 := by omega
      rw [if_neg (by simp), l1_text D.length k D rfl (by omega) hd (by omega)]
      simp
theorem head_text : ∀ (suf pre : List Int) (k : Nat) (o : Int) (D : List Int), 0 ≤ o → o ≤ 1000000000000 → pre.length + suf.length ≤ 1000000 → D.length = pre.length → Dg D → (∀ y ∈ suf, 0 ≤ y ∧ y ≤ 1000000000000) → 2 * D.length + 5 * suf.length + 100 < k →
    gantlineref05_text.l0 k (pre ++ suf) o D pre.length = some ⟨(decN (bw D + 10 ^ D.length * (o + bv 10 suf)).toNat).toArray⟩ := by
  intro suf
  induction suf with
  | nil =>
    intro pre k o D h0 h1 hl hD hd hs hk
    rw [List.length_nil] at hl hk
    rw [tail_text _ 13 k o _ D h0 (by omega) h1 (by simp) (by omega) (by omega) hd (by omega)]
    simp [bv]
  | cons x suf ih =>
    intro pre k o D h0 h1 hl hD hd hs hk
    obtain ⟨k, rfl⟩ : ∃ q, k = q + 1 + 1 := ⟨k - 2, by omega⟩
    rw [List.length_cons] at hl hk
    have hx := hs x List.mem_cons_self
    have e0 : (pre ++ x :: suf).length = pre.length + suf.length + 1 := by simp; omega
    have e1 : rd (pre ++ x :: suf) (pre.length : Int) = x := rd_mid pre suf x
    have e2 : (pre.length : Int) + 1 = (((pre ++ [x]).length : Nat) : Int) := by simp
    have e3 : pre ++ x :: suf = (pre ++ [x]) ++ suf := by simp
    rw [gantlineref05_text.l0, if_pos (by omega), gantlineref05_text.j1, if_pos rfl, if_pos (by omega), if_pos (by omega), if_pos (by omega), e1, w64r (x := o + x) (by omega) (by omega), tdiv_ (by omega), tmod_ (by omega), w64r (by omega) (by omega), w64r (x := 48 + (o + x) % 10) (by omega) (by omega), w64r (x := (pre.length : Int) + 1) (by omega) (by omega)]
    rw [show (48 + (o + x) % 10) % 256 = 48 + (o + x) % 10 from by omega, e2, e3]
    rw [ih (pre ++ [x]) k ((o + x) / 10) (D ++ [48 + (o + x) % 10]) (by omega) (by omega) (by rw [List.length_append, List.length_singleton]; omega) (by rw [List.length_append, List.length_append, List.length_singleton, List.length_singleton]; omega) (fun d hd' => by
        rcases List.mem_append.1 hd' with h | h
        · exact hd d h
        · obtain rfl : d = 48 + (o + x) % 10 := by simpa using h
          omega) (fun y hy => hs y (List.mem_cons_of_mem _ hy)) (by rw [List.length_append, List.length_singleton]; omega)]
    rw [bw_snoc, List.length_append, List.length_singleton, Int.pow_succ, bv]
    have h4 : (o + x) % 10 = (o + x) - 10 * ((o + x) / 10) := by omega
    rw [h4]
    have : bw D + 10 ^ D.length * (48 + ((o + x) - 10 * ((o + x) / 10)) - 48) + 10 ^ D.length * 10 * ((o + x) / 10 + bv 10 suf) = bw D + 10 ^ D.length * (o + (x + 10 * bv 10 suf)) := by grind
    rw [this]
/-- text: the decimal digits of the value. -/
theorem text_eq (xs : List Int) (hn : xs.length ≤ 1000000) (hs : ∀ y ∈ xs, 0 ≤ y ∧ y ≤ 1000000000000) (k : Nat) (hk : 5 * xs.length + 100 < k) :
    gantlineref05_text.f k xs = some ⟨(decN (bv 10 xs).toNat).toArray⟩ := by
  have h := head_text xs [] k 0 [] (by omega) (by omega) (by simpa using hn) rfl (fun d hd => by cases hd) hs (by simpa using hk)
  unfold gantlineref05_text.f
  rw [List.nil_append] at h
  rw [show ((([] : List Int).length : Nat) : Int) = 0 from rfl] at h
  rw [h]
  simp [bw, bv]
/-- What a number's text is, or the refusal. -/
def shortN (v : Nat) : ByteArray × Int := if 800 < (decN v).length then (⟨#[]⟩, 11) else (⟨(decN v).toArray⟩, 0)
theorem ref_short_eq (v : Nat) : gantlineref05_short.f ⟨(decN v).toArray⟩ = some (shortN v) := by
  unfold gantlineref05_short.f shortN
  rw [szl]
  show (if (((decN v).length : Nat) : Int) > 800 then _ else _) = _
  by_cases h : 800 < (decN v).length
  · rw [if_pos (by omega), if_pos h]
  · rw [if_neg (by omega), if_neg h]
end Go.Proofs.YtfndkpifgmcomaaDoor.Q
