/- Part of this claim: QRight, QText, QRef, QNat, QSums, QPow, QMake, QExact. -/
import Derived.Test.YtfndkpifgmcomaaDoorGeXM3
import Derived.Test.YtfndkpifgmcomaaDoorGeXM1
import Derived.Test.YtfndkpifgmcomaaDoorGeQM1
import Derived.Test.YtfndkpifgmcomaaDoorGeQM2
section
namespace Go.Proofs.YtfndkpifgmcomaaDoor.Q
open Go.RowKit Go.Proofs.YtfndkpifgmcomaaDoor.XD Go.Proofs.YtfndkpifgmcomaaDoorW.PrintWords Go.Proofs.YtfndkpifgmcomaaDoorW.PrintLast Go.Proofs.YtfndkpifgmcomaaDoorW.PrintMore
open Go.Proofs.YtfndkpifgmcomaaDoor.QNum (isNum isNum_iff vN vN_append vN_lt vN_pos decN decN_vN)
set_option linter.unusedVariables false
theorem w64r {x : Int} (h0 : -9223372036854775808 ≤ x) (h1 : x ≤ 9223372036854775807) : wrap64 x = x := by unfold wrap64; omega
theorem szl (s : ByteArray) : s.size = s.data.toList.length := by rw [Array.length_toList]; rfl
theorem btl (s : ByteArray) (i : Nat) : bt s (i : Int) = ((s.data.toList.getD i 0).toNat : Int) := by
  unfold bt
  have e : ((i : Int)).toNat = i := by omega
  by_cases h : i < s.size
  · rw [dif_pos (by rw [e]; exact h)]
    rw [szl] at h
    rw [List.getD_eq_getElem?_getD, List.getElem?_eq_getElem h, Option.getD_some]
    simp only [e]
    rfl
  · rw [dif_neg (by rw [e]; exact h)]
    rw [szl] at h
    rw [List.getD_eq_getElem?_getD, List.getElem?_eq_none (by omega)]
    rfl
def digs : List UInt8 := [48, 49, 50, 51, 52, 53, 54, 55, 56, 57]
theorem digs_has (c : UInt8) : digs.contains c = QNum.isDig c := by
  rw [Bool.eq_iff_iff, QNum.isDig_iff]
  simp only [digs, List.contains_eq_mem, List.mem_cons, List.not_mem_nil, or_false, decide_eq_true_eq, ← UInt8.toNat_inj]
  simp only [show (48 : UInt8).toNat = 48 from rfl, show (49 : UInt8).toNat = 49 from rfl, show (50 : UInt8).toNat = 50 from rfl, show (51 : UInt8).toNat = 51 from rfl, show (52 : UInt8).toNat = 52 from rfl, show (53 : UInt8).toNat = 53 from rfl, show (54 : UInt8).toNat = 54 from rfl, show (55 : UInt8).toNat = 55 from rfl, show (56 : UInt8).toNat = 56 from rfl, show (57 : UInt8).toNat = 57 from rfl]
  omega
theorem dropWhile_all (p : UInt8 → Bool) : ∀ (l : List UInt8), (∀ c ∈ l.dropWhile p, p c = true) → ∀ c ∈ l, p c = true
  | [], _ => fun c hc => by cases hc
  | x :: l, h => by
    rw [List.dropWhile_cons] at h
    by_cases hx : p x = true
    · rw [if_pos hx] at h
      intro c hc
      rcases List.mem_cons.1 hc with rfl | hc
      · exact hx
      · exact dropWhile_all p l h c hc
    · rw [if_neg hx] at h
      exact h
theorem dropWhile_nil (p : UInt8 → Bool) : ∀ (l : List UInt8), l.dropWhile p = [] ↔ ∀ c ∈ l, p c = true
  | [] => by simp
  | x :: l => by
    rw [List.dropWhile_cons]
    by_cases hx : p x = true
    · rw [if_pos hx, dropWhile_nil p l]
      simp [hx]
    · rw [if_neg hx]
      simp [hx]
theorem trimS_nil (l cs : List UInt8) : Lib.trimS l cs = [] ↔ ∀ c ∈ l, cs.contains c = true := by
  unfold Lib.trimS Lib.trimLeftS Lib.trimRightS
  rw [dropWhile_nil]
  constructor
  · intro h c hc
    exact dropWhile_all (fun x => cs.contains x) l.reverse (fun c hc => h c (List.mem_reverse.2 hc)) c (List.mem_reverse.2 hc)
  · intro h c hc
    exact h c (List.mem_reverse.1 ((List.dropWhile_sublist _).subset (List.mem_reverse.1 hc)))
def okS (s : ByteArray) : Bool := isNum s.data.toList && decide (s.size ≤ 800)
theorem trim_f (s : ByteArray) (h : s.size ≤ 9223372036854775807) : strings_Trim.f s (⟨#[48, 49, 50, 51, 52, 53, 54, 55, 56, 57]⟩ : ByteArray) = some ⟨(Lib.trimS s.data.toList digs).toArray⟩ := by
  unfold strings_Trim.f
  rw [if_pos ⟨by decide, h⟩]
  rfl
theorem trim_nil (s : ByteArray) : ((⟨(Lib.trimS s.data.toList digs).toArray⟩ : ByteArray).toList == ([] : List UInt8)) = s.data.toList.all QNum.isDig := by
  rw [ByteArray.toList_eq, Bool.eq_iff_iff, beq_iff_eq, List.all_eq_true]
  show Lib.trimS s.data.toList digs = [] ↔ _
  rw [trimS_nil]
  constructor
  · intro h c hc; rw [← digs_has]; exact h c hc
  · intro h c hc; rw [digs_has]; exact h c hc
theorem nat_Right_eq (s : ByteArray) (h : s.size ≤ 140737488351232) : nat_Right.f s = some (okS s) := by
  unfold nat_Right.f okS
  rw [trim_f s (by omega), szl, ByteArray.toList_eq]
  simp only [Option.bind_some]
  rw [trim_nil]
  have hb := btl s 0
  have hsz := szl s
  cases hl : s.data.toList with
  | nil => simp [isNum]
  | cons c q =>
    rw [hl] at hb hsz
    rw [if_neg (by simp)]
    simp only [List.getD_cons_zero] at hb
    have hb : bt s 0 = (c.toNat : Int) := hb
    by_cases h8 : (c :: q).length ≤ 800
    · rw [if_neg (by omega), if_pos (by simp), hb, decide_eq_true h8, Bool.and_true]
      by_cases hc : c = 48
      · subst hc
        rw [if_pos (by rfl)]
        cases q with
        | nil => decide
        | cons d q => rw [if_neg (by simp)]; simp [isNum]
      · rw [if_neg (by
          intro e
          exact hc (UInt8.toNat_inj.1 (by simpa using (show c.toNat = 48 from by omega))))]
        simp [isNum, hc]
    · rw [if_pos (by omega), decide_eq_false h8, Bool.and_false]
theorem ref_Right_l0 (s : ByteArray) (h : s.size ≤ 140737488351232) : ∀ (d k i : Nat), s.size - i = d → i ≤ s.size → d < k → gantlineref05_Right.l0 k s i = some ((s.data.toList.drop i).all QNum.isDig) := by
  intro d
  induction d with
  | zero =>
    intro k i hd hi hk
    obtain ⟨k, rfl⟩ : ∃ q, k = q + 1 := ⟨k - 1, by omega⟩
    obtain rfl : i = s.size := by omega
    rw [gantlineref05_Right.l0, if_neg (by omega), szl, List.drop_length]
    rfl
  | succ d ih =>
    intro k i hd hi hk
    obtain ⟨k, rfl⟩ : ∃ q, k = q + 1 := ⟨k - 1, by omega⟩
    have hil : i < s.data.toList.length := by rw [← szl]; omega
    rw [gantlineref05_Right.l0, if_pos (by omega), if_pos (by omega), btl, w64r (by omega) (by omega), show (i : Int) + 1 = ((i + 1 : Nat) : Int) from rfl, ih k (i + 1) (by omega) (by omega) (by omega)]
    rw [List.drop_eq_getElem_cons hil, List.all_cons]
    have e : s.data.toList.getD i 0 = s.data.toList[i] := by rw [List.getD_eq_getElem?_getD, List.getElem?_eq_getElem hil]; rfl
    rw [e]
    generalize s.data.toList[i] = c
    have hc := QNum.isDig_iff c
    by_cases h1 : (c.toNat : Int) < 48
    · rw [if_pos h1]
      have : QNum.isDig c = false := by rw [Bool.eq_false_iff]; intro e; have := hc.1 e; omega
      rw [this]; rfl
    · rw [if_neg h1]
      by_cases h2 : (c.toNat : Int) > 57
      · rw [if_pos h2]
        have : QNum.isDig c = false := by rw [Bool.eq_false_iff]; intro e; have := hc.1 e; omega
        rw [this]; rfl
      · rw [if_neg h2, hc.2 (by omega), Bool.true_and]
theorem ref_Right_eq (s : ByteArray) (h : s.size ≤ 140737488351232) (k : Nat) (hk : 802 < k) : gantlineref05_Right.f k s = some (okS s) := by
  obtain ⟨k, rfl⟩ : ∃ q, k = q + 1 := ⟨k - 1, by omega⟩
  unfold gantlineref05_Right.f okS
  have hb := btl s 0
  have hsz := szl s
  have hl0 : s.size ≤ 800 → gantlineref05_Right.l0 k s 0 = some (s.data.toList.all QNum.isDig) := fun h8 => ref_Right_l0 s h s.size k 0 (by omega) (by omega) (by omega)
  cases hl : s.data.toList with
  | nil =>
    rw [hl] at hsz
    rw [if_pos (by rw [hsz]; rfl), gantlineref05_Right.j0, if_pos rfl]
    simp [isNum]
  | cons c q =>
    rw [hl] at hb hsz hl0
    have hsz2 : s.size = q.length + 1 := by rw [hsz]; rfl
    rw [if_neg (by omega)]
    simp only [List.getD_cons_zero] at hb
    have hb : bt s 0 = (c.toNat : Int) := hb
    by_cases h8 : s.size ≤ 800
    · rw [if_neg (by omega), if_pos (by omega), hb, decide_eq_true h8, Bool.and_true, gantlineref05_Right.j0, gantlineref05_Right.j0, hl0 h8]
      by_cases hc : c = 48
      · subst hc
        rw [if_pos (by rfl)]
        cases q with
        | nil => rw [hsz2]; decide
        | cons d q => rw [if_pos (by rw [hsz2]; simp; omega)]; simp [isNum]
      · rw [if_neg (by
          intro e
          exact hc (UInt8.toNat_inj.1 (by simpa using (show c.toNat = 48 from by omega))))]
        simp [isNum, hc]
    · rw [if_pos (by omega), decide_eq_false h8, Bool.and_false, gantlineref05_Right.j0, if_pos rfl]
end Go.Proofs.YtfndkpifgmcomaaDoor.Q
end
section
namespace Go.Proofs.YtfndkpifgmcomaaDoor.Q
open Go.RowKit Go.Proofs.YtfndkpifgmcomaaDoor.XD Go.Proofs.YtfndkpifgmcomaaDoorW.PrintWords Go.Proofs.YtfndkpifgmcomaaDoorW.PrintLast Go.Proofs.YtfndkpifgmcomaaDoorW.PrintMore
open Go.Proofs.YtfndkpifgmcomaaDoor.QNum (bv bv_append bv_nonneg isNum isNum_iff vN vN_snoc decN num_eq decN_lt)
set_option linter.unusedVariables false
def dg (c : UInt8) : Int := ((c.toNat : Int) - 48) % 256
def dL (l : List UInt8) : List Int := l.reverse.map dg
theorem digits_l0 (s : ByteArray) (hs : s.size ≤ 1000000) : ∀ (n k : Nat) (x3 : List Int), n ≤ s.size → n < k → x3.length + n ≤ 1000000 →
    gantlineref05_digits.l0 k s x3 ((n : Int) - 1) = some (x3 ++ dL (s.data.toList.take n)) := by
  intro n
  induction n with
  | zero =>
    intro k x3 _ hk _
    obtain ⟨k, rfl⟩ : ∃ q, k = q + 1 := ⟨k - 1, by omega⟩
    rw [gantlineref05_digits.l0, if_neg (by omega)]
    simp [dL]
  | succ n ih =>
    intro k x3 hn hk hl
    obtain ⟨k, rfl⟩ : ∃ q, k = q + 1 := ⟨k - 1, by omega⟩
    have hil : n < s.data.toList.length := by rw [← szl]; omega
    rw [show ((n + 1 : Nat) : Int) - 1 = (n : Int) from by omega]
    rw [gantlineref05_digits.l0, if_pos (by omega), if_pos (by omega), if_pos (by omega), if_pos (by omega), btl, w64r (by omega) (by omega), ih k _ (by omega) (by omega) (by rw [List.length_append, List.length_singleton]; omega)]
    rw [List.take_succ_eq_append_getElem hil]
    have e : s.data.toList.getD n 0 = s.data.toList[n] := by rw [List.getD_eq_getElem?_getD, List.getElem?_eq_getElem hil]; rfl
    rw [e]
    unfold dL
    rw [List.reverse_append]
    simp [dg]
theorem ref_digits_eq (s : ByteArray) (hs : s.size ≤ 1000000) (k : Nat) (hk : 1000000 < k) : gantlineref05_digits.f k s = some (dL s.data.toList) := by
  unfold gantlineref05_digits.f
  rw [w64r (by omega) (by omega), digits_l0 s hs s.size k [] (by omega) (by omega) (by simpa using hs)]
  rw [szl, List.take_length]; rfl
theorem dL_len (l : List UInt8) : (dL l).length = l.length := by simp [dL]
theorem dg_eq {c : UInt8} (h : QNum.isDig c = true) : dg c = (c.toNat : Int) - 48 := by
  have := (QNum.isDig_iff c).1 h
  unfold dg; omega
theorem dL_small (l : List UInt8) (h : ∀ c ∈ l, QNum.isDig c = true) : ∀ y ∈ dL l, 0 ≤ y ∧ y ≤ 9 := by
  intro y hy
  obtain ⟨c, hc, rfl⟩ := List.mem_map.1 hy
  have hd := h c (List.mem_reverse.1 hc)
  have := (QNum.isDig_iff c).1 hd
  rw [dg_eq hd]; omega
theorem dL_val : ∀ (n : Nat) (l : List UInt8), l.length = n → (∀ c ∈ l, QNum.isDig c = true) → bv 10 (dL l) = (vN l : Int) := by
  intro n
  induction n with
  | zero => intro l hl _; obtain rfl := List.eq_nil_of_length_eq_zero hl; rfl
  | succ n ih =>
    intro l hl hd
    have hne : l ≠ [] := by intro e; simp [e] at hl
    obtain ⟨q, c, rfl⟩ : ∃ q c, l = q ++ [c] := ⟨l.dropLast, l.getLast hne, (List.dropLast_concat_getLast hne).symm⟩
    have h1 := ih q (by simpa using hl) (fun c hc => hd c (List.mem_append_left _ hc))
    have hc := hd c (by simp)
    have := (QNum.isDig_iff c).1 hc
    have e : dL (q ++ [c]) = dg c :: dL q := by simp [dL]
    rw [e, vN_snoc, bv, h1, dg_eq hc]
    omega
def bw (D : List Int) : Int := bv 10 (D.map fun d => d - 48)
def Dg (D : List Int) : Prop := ∀ d ∈ D, 48 ≤ d ∧ d ≤ 57
def u8 (n : Int) : UInt8 := UInt8.ofNat n.toNat
theorem u8_nat {n : Int} (h : 48 ≤ n ∧ n ≤ 57) : ((u8 n).toNat : Int) = n := by unfold u8; simp; omega
theorem vN_tx : ∀ (D : List Int), Dg D → ((vN (D.reverse.map u8) : Nat) : Int) = bw D
  | [], _ => rfl
  | d :: D, h => by
    have ih := vN_tx D (fun x hx => h x (List.mem_cons_of_mem _ hx))
    have hd := u8_nat (h d List.mem_cons_self)
    have hd2 := h d List.mem_cons_self
    rw [List.reverse_cons, List.map_append, List.map_cons, List.map_nil, vN_snoc]
    show _ = (d - 48) + 10 * bw D
    rw [← ih]
    omega
theorem tx_dig (D : List Int) (h : Dg D) : ∀ c ∈ D.reverse.map u8, QNum.isDig c = true := by
  intro c hc
  obtain ⟨d, hd, rfl⟩ := List.mem_map.1 hc
  have h1 := h d (List.mem_reverse.1 hd)
  have := u8_nat h1
  exact (QNum.isDig_iff _).2 (by omega)
theorem tx_eq (D : List Int) (h : Dg D) (hne : D ≠ []) (ht : D.length = 1 ∨ ∀ q d, D = q ++ [d] → d ≠ 48) : D.reverse.map u8 = decN (bw D).toNat := by
  refine num_eq ((isNum_iff _).2 ⟨tx_dig D h, by simpa using hne, ?_⟩) (by have := vN_tx D h; omega)
  rcases ht with ht | ht
  · exact .inl (by simpa using ht)
  · right
    obtain ⟨q, c, rfl⟩ : ∃ q c, D = q ++ [c] := ⟨D.dropLast, D.getLast hne, (List.dropLast_concat_getLast hne).symm⟩
    have h1 := ht q c rfl
    have h2 := u8_nat (h c (by simp))
    rw [List.reverse_append]
    simp only [List.reverse_cons, List.reverse_nil, List.nil_append, List.singleton_append, List.map_cons, List.head?_cons, ne_eq, Option.some.injEq]
    intro e
    rw [e] at h2
    exact h1 (by rw [← h2]; rfl)
def fin (z : List Int) : Option ByteArray := if (z.length : Int) = 0 then some ⟨#[48]⟩ else some (strOfNums z)
theorem l2_text (D : List Int) (hD : D.length ≤ 10000000) : ∀ (n k : Nat) (x6 : List Int), n ≤ D.length → n < k → x6.length + n ≤ 10000000 →
    gantlineref05_text.l2 k D x6 ((n : Int) - 1) = fin (x6 ++ (D.take n).reverse) := by
  intro n
  induction n with
  | zero =>
    intro k x6 _ hk _
    obtain ⟨k, rfl⟩ : ∃ q, k = q + 1 := ⟨k - 1, by omega⟩
    rw [gantlineref05_text.l2, if_neg (by omega)]
    simp [fin]
  | succ n ih =>
    intro k x6 hn hk hl
    obtain ⟨k, rfl⟩ : ∃ q, k = q + 1 := ⟨k - 1, by omega⟩
    have hil : n < D.length := by omega
    rw [show ((n + 1 : Nat) : Int) - 1 = (n : Int) from by omega]
    rw [gantlineref05_text.l2, if_pos (by omega), if_pos (by omega), if_pos (by omega), if_pos (by omega), w64r (by omega) (by omega), ih k _ (by omega) (by omega) (by rw [List.length_append, List.length_singleton]; omega)]
    rw [List.take_succ_eq_append_getElem hil, List.reverse_append]
    have e : rd D (n : Int) = D[n] := by unfold rd; rw [show ((n : Int)).toNat = n from by omega, List.getD_eq_getElem?_getD, List.getElem?_eq_getElem hil]; rfl
    rw [e]
    simp
theorem j3_text (D : List Int) (hD : D.length ≤ 10000000) (k : Nat) (hk : D.length + 1 < k) (h : Dg D) (ht : D = [] ∨ D.length = 1 ∨ ∀ q d, D = q ++ [d] → d ≠ 48) :
    gantlineref05_text.j3 k D = some ⟨(decN (bw D).toNat).toArray⟩ := by
  obtain ⟨k, rfl⟩ : ∃ q, k = q + 1 := ⟨k - 1, by omega⟩
  rw [gantlineref05_text.j3, w64r (by omega) (by omega), l2_text D hD D.length k [] (by omega) (by omega) (by simpa using hD), List.take_length, List.nil_append]
  unfold fin
  rcases ht with rfl | ht
  · rw [if_pos (by simp)]
    rw [show (bw ([] : List Int)).toNat = 0 from rfl, decN_lt (by omega)]
    rfl
  · by_cases hne : D = []
    · subst hne
      rw [if_pos (by simp)]
      rw [show (bw ([] : List Int)).toNat = 0 from rfl, decN_lt (by omega)]
      rfl
    · have h0 : D.length ≠ 0 := by intro e; exact hne (List.eq_nil_of_length_eq_zero e)
      rw [if_neg (by simp; exact hne), ← tx_eq D h hne ht]
      rfl
theorem bw_snoc (q : List Int) (d : Int) : bw (q ++ [d]) = bw q + 10 ^ q.length * (d - 48) := by
  unfold bw
  rw [List.map_append, bv_append, List.length_map]
  simp [bv]
theorem l1_text : ∀ (n k : Nat) (D : List Int), D.length = n → n ≤ 10000000 → Dg D → 2 * n + 4 < k →
    gantlineref05_text.l1 k D = some ⟨(decN (bw D).toNat).toArray⟩ := by
  intro n
  induction n with
  | zero =>
    intro k D hn _ hd hk
    obtain ⟨k, rfl⟩ : ∃ q, k = q + 1 := ⟨k - 1, by omega⟩
    obtain rfl := List.eq_nil_of_length_eq_zero hn
    rw [gantlineref05_text.l1, if_neg (by simp), j3_text [] (by simp) k (by simp; omega) hd (.inl rfl)]
  | succ n ih =>
    intro k D hn hb hd hk
    obtain ⟨k, rfl⟩ : ∃ q, k = q + 1 := ⟨k - 1, by omega⟩
    have hne : D ≠ [] := by intro e; simp [e] at hn
    obtain ⟨q, c, rfl⟩ : ∃ q c, D = q ++ [c] := ⟨D.dropLast, D.getLast hne, (List.dropLast_concat_getLast hne).symm⟩
    have hq : q.length = n := by simpa using hn
    by_cases h1 : n = 0
    · rw [gantlineref05_text.l1, if_neg (by omega), j3_text _ (by omega) k (by omega) hd (.inr (.inl (by omega)))]
    · have e1 : ((q ++ [c]).length : Int) - 1 = (q.length : Int) := by omega
      have e2 : rd (q ++ [c]) (q.length : Int) = c := by simp [rd]
      rw [gantlineref05_text.l1, if_pos (by omega), e1, w64r (by omega) (by omega), if_pos (by omega), if_pos (by omega), e2]
      by_cases hc : c = 48
      · subst hc
        rw [if_pos rfl, if_pos (by omega)]
        have e3 : (q ++ [48]).take ((q.length : Int)).toNat = q := by simp
        rw [e3, ih k q hq (by omega) (fun x hx => hd x (List.mem_append_left _ hx)) (by omega), bw_snoc]
        simp
      · rw [if_neg hc, j3_text _ (by omega) k (by omega) hd (.inr (.inr fun q' d' e => by
          have := (List.append_inj_right' e rfl)
          simp at this
          rw [← this]; exact hc))]
theorem tail_text (xs : List Int) : ∀ (m k : Nat) (o i : Int) (D : List Int), 0 ≤ o → o < 10 ^ m → o ≤ 1000000000000 → (xs.length : Int) ≤ i → i + m ≤ 10000000 → D.length + m ≤ 10000000 → Dg D → 2 * D.length + 5 * m + 10 < k →
    gantlineref05_text.l0 k xs o D i = some ⟨(decN (bw D + 10 ^ D.length * o).toNat).toArray⟩ := by
  intro m
  induction m with
  | zero =>
    intro k o i D h0 h1 h2 hi hi2 hl hd hk
    obtain ⟨k, rfl⟩ : ∃ q, k = q + 1 + 1 := ⟨k - 2, by omega⟩
    obtain rfl : o = 0 := by simp at h1; omega
    rw [gantlineref05_text.l0, if_neg (by omega), gantlineref05_text.j1, if_neg (by simp), l1_text D.length k D rfl (by omega) hd (by omega)]
    simp
  | succ m ih =>
    intro k o i D h0 h1 h2 hi hi2 hl hd hk
    obtain ⟨k, rfl⟩ : ∃ q, k = q + 1 + 1 := ⟨k - 2, by omega⟩
    rw [gantlineref05_text.l0, if_neg (by omega), gantlineref05_text.j1]
    by_cases ho : o > 0
    · rw [if_pos (by simpa using ho), if_neg (by omega), if_pos (by omega), tdiv_ h0, tmod_ h0, w64r (by omega) (by omega), w64r (x := 48 + o % 10) (by omega) (by omega), w64r (x := i + 1) (by omega) (by omega)]
      rw [show (48 + o % 10) % 256 = 48 + o % 10 from by omega]
      rw [Int.pow_succ] at h1
      rw [ih k (o / 10) (i + 1) (D ++ [48 + o % 10]) (by omega) (by omega) (by omega) (by omega) (by omega) (by rw [List.length_append, List.length_singleton]; omega) (fun d hd' => by
        rcases List.mem_append.1 hd' with h | h
        · exact hd d h
        · obtain rfl : d = 48 + o % 10 := by simpa using h
          omega) (by rw [List.length_append, List.length_singleton]; omega)]
      rw [bw_snoc, List.length_append, List.length_singleton, Int.pow_succ]
      have h3 : o % 10 + 10 * (o / 10) = o := by omega
      have h4 : o % 10 = o - 10 * (o / 10) := by omega
      rw [h4]
      have : bw D + 10 ^ D.length * (48 + (o - 10 * (o / 10)) - 48) + 10 ^ D.length * 10 * (o / 10) = bw D + 10 ^ D.length * o := by grind
      rw [this]
    · obtain rfl : o = 0 := by omega
      rw [if_neg (by simp), l1_text D.length k D rfl (by omega) hd (by omega)]
      simp
theorem head_text : ∀ (suf pre : List Int) (k : Nat) (o : Int) (D : List Int), 0 ≤ o → o ≤ 1000000000000 → pre.length + suf.length ≤ 1000000 → D.length = pre.length → Dg D → (∀ y ∈ suf, 0 ≤ y ∧ y ≤ 1000000000000) → 2 * D.length + 5 * suf.length + 100 < k →
    gantlineref05_text.l0 k (pre ++ suf) o D pre.length = some ⟨(decN (bw D + 10 ^ D.length * (o + bv 10 suf)).toNat).toArray⟩ := by
  intro suf
  induction suf with
  | nil =>
    intro pre k o D h0 h1 hl hD hd hs hk
    rw [List.length_nil] at hl hk
    rw [tail_text _ 13 k o _ D h0 (by omega) h1 (by simp) (by omega) (by omega) hd (by omega)]
    simp [bv]
  | cons x suf ih =>
    intro pre k o D h0 h1 hl hD hd hs hk
    obtain ⟨k, rfl⟩ : ∃ q, k = q + 1 + 1 := ⟨k - 2, by omega⟩
    rw [List.length_cons] at hl hk
    have hx := hs x List.mem_cons_self
    have e0 : (pre ++ x :: suf).length = pre.length + suf.length + 1 := by simp; omega
    have e1 : rd (pre ++ x :: suf) (pre.length : Int) = x := rd_mid pre suf x
    have e2 : (pre.length : Int) + 1 = (((pre ++ [x]).length : Nat) : Int) := by simp
    have e3 : pre ++ x :: suf = (pre ++ [x]) ++ suf := by simp
    rw [gantlineref05_text.l0, if_pos (by omega), gantlineref05_text.j1, if_pos rfl, if_pos (by omega), if_pos (by omega), if_pos (by omega), e1, w64r (x := o + x) (by omega) (by omega), tdiv_ (by omega), tmod_ (by omega), w64r (by omega) (by omega), w64r (x := 48 + (o + x) % 10) (by omega) (by omega), w64r (x := (pre.length : Int) + 1) (by omega) (by omega)]
    rw [show (48 + (o + x) % 10) % 256 = 48 + (o + x) % 10 from by omega, e2, e3]
    rw [ih (pre ++ [x]) k ((o + x) / 10) (D ++ [48 + (o + x) % 10]) (by omega) (by omega) (by rw [List.length_append, List.length_singleton]; omega) (by rw [List.length_append, List.length_append, List.length_singleton, List.length_singleton]; omega) (fun d hd' => by
        rcases List.mem_append.1 hd' with h | h
        · exact hd d h
        · obtain rfl : d = 48 + (o + x) % 10 := by simpa using h
          omega) (fun y hy => hs y (List.mem_cons_of_mem _ hy)) (by rw [List.length_append, List.length_singleton]; omega)]
    rw [bw_snoc, List.length_append, List.length_singleton, Int.pow_succ, bv]
    have h4 : (o + x) % 10 = (o + x) - 10 * ((o + x) / 10) := by omega
    rw [h4]
    have : bw D + 10 ^ D.length * (48 + ((o + x) - 10 * ((o + x) / 10)) - 48) + 10 ^ D.length * 10 * ((o + x) / 10 + bv 10 suf) = bw D + 10 ^ D.length * (o + (x + 10 * bv 10 suf)) := by grind
    rw [this]
theorem text_eq (xs : List Int) (hn : xs.length ≤ 1000000) (hs : ∀ y ∈ xs, 0 ≤ y ∧ y ≤ 1000000000000) (k : Nat) (hk : 5 * xs.length + 100 < k) :
    gantlineref05_text.f k xs = some ⟨(decN (bv 10 xs).toNat).toArray⟩ := by
  have h := head_text xs [] k 0 [] (by omega) (by omega) (by simpa using hn) rfl (fun d hd => by cases hd) hs (by simpa using hk)
  unfold gantlineref05_text.f
  rw [List.nil_append] at h
  rw [show ((([] : List Int).length : Nat) : Int) = 0 from rfl] at h
  rw [h]
  simp [bw, bv]
def shortN (v : Nat) : ByteArray × Int := if 800 < (decN v).length then (⟨#[]⟩, 11) else (⟨(decN v).toArray⟩, 0)
theorem ref_short_eq (v : Nat) : gantlineref05_short.f ⟨(decN v).toArray⟩ = some (shortN v) := by
  unfold gantlineref05_short.f shortN
  rw [szl]
  show (if (((decN v).length : Nat) : Int) > 800 then _ else _) = _
  by_cases h : 800 < (decN v).length
  · rw [if_pos (by omega), if_pos h]
  · rw [if_neg (by omega), if_neg h]
end Go.Proofs.YtfndkpifgmcomaaDoor.Q
end
section
namespace Go.Proofs.YtfndkpifgmcomaaDoor.Q
open Go.RowKit Go.Proofs.YtfndkpifgmcomaaDoor.XD Go.Proofs.YtfndkpifgmcomaaDoorW.PrintWords Go.Proofs.YtfndkpifgmcomaaDoorW.PrintLast Go.Proofs.YtfndkpifgmcomaaDoorW.PrintMore
open Go.Proofs.YtfndkpifgmcomaaDoor.QNum (bv bv_append bv_set bv_nonneg bv_replicate isNum isNum_iff vN decN)
set_option linter.unusedVariables false
def Bnd (M : Int) (xs : List Int) : Prop := ∀ y ∈ xs, 0 ≤ y ∧ y ≤ M
theorem bnd_getD {M : Int} {xs : List Int} (h : Bnd M xs) (hM : 0 ≤ M) (i : Nat) : 0 ≤ xs.getD i 0 ∧ xs.getD i 0 ≤ M := by
  rw [List.getD_eq_getElem?_getD]
  rcases Nat.lt_or_ge i xs.length with hi | hi
  · rw [List.getElem?_eq_getElem hi]
    exact h _ (List.getElem_mem hi)
  · rw [List.getElem?_eq_none hi]
    exact ⟨by simp, by simpa using hM⟩
theorem bnd_set {M N : Int} {xs : List Int} (h : Bnd M xs) (i : Nat) (v : Int) (hMN : M ≤ N) (h0 : 0 ≤ v) (h1 : v ≤ N) : Bnd N (xs.set i v) := by
  intro y hy
  rcases List.mem_or_eq_of_mem_set hy with hy | rfl
  · have := h y hy; omega
  · exact ⟨h0, h1⟩
theorem ntn (i : Nat) : ((i : Int)).toNat = i := by omega
theorem bnd_rep (n : Nat) (M : Int) (h : 0 ≤ M) : Bnd M (List.replicate n 0) := fun y hy => by rw [List.eq_of_mem_replicate hy]; omega
structure Fit (a b : ByteArray) : Prop where
  na : isNum a.data.toList = true
  nb : isNum b.data.toList = true
  sa : a.size ≤ 800
  sb : b.size ≤ 800
theorem Fit.da {a b : ByteArray} (h : Fit a b) : ∀ c ∈ a.data.toList, QNum.isDig c = true := ((isNum_iff _).1 h.na).1
theorem Fit.db {a b : ByteArray} (h : Fit a b) : ∀ c ∈ b.data.toList, QNum.isDig c = true := ((isNum_iff _).1 h.nb).1
def vA (a : ByteArray) : Nat := vN a.data.toList
theorem rmul_inner (xs ys : List Int) (i : Nat) (hx : Bnd 9 xs) (hy : Bnd 9 ys) (hi : i < xs.length) (hnx : xs.length ≤ 1000) (hny : ys.length ≤ 1000) : ∀ (d k j : Nat) (out : List Int) (M : Int), ys.length - j = d → j ≤ ys.length → 0 ≤ M → M + 81 * d ≤ 100000000000 → Bnd M out → out.length = xs.length + ys.length →
    ∃ out2, gantlineref05_mul.l1 (k + d + 1) i j xs ys out = gantlineref05_mul.l0 k ((i + 1 : Nat) : Int) xs ys out2 ∧ Bnd (M + 81 * d) out2 ∧ out2.length = xs.length + ys.length ∧ bv 10 out2 = bv 10 out + 10 ^ i * (xs.getD i 0 * (bv 10 ys - bv 10 (ys.take j))) := by
  intro d
  induction d with
  | zero =>
    intro k j out M hd hj hM hM2 hb hl
    obtain rfl : j = ys.length := by omega
    refine ⟨out, ?_, by simpa using hb, hl, ?_⟩
    · rw [Nat.add_zero, gantlineref05_mul.l1, if_neg (by omega), w64 (by omega) (by omega)]
      rfl
    · rw [List.take_length]; simp
  | succ d ih =>
    intro k j out M hd hj hM hM2 hb hl
    have h1 := bnd_getD hx (by omega) i
    have h2 := bnd_getD hy (by omega) j
    have h3 := bnd_getD hb hM (i + j)
    have h4 : 0 ≤ xs.getD i 0 * ys.getD j 0 := Int.mul_nonneg h1.1 h2.1
    have h5 : xs.getD i 0 * ys.getD j 0 ≤ 9 * 9 := Int.mul_le_mul h1.2 h2.2 h2.1 (by omega)
    have e : (i : Int) + (j : Int) = ((i + j : Nat) : Int) := by omega
    have r1 : rd xs (i : Int) = xs.getD i 0 := rfl
    have r2 : rd ys (j : Int) = ys.getD j 0 := rfl
    have r3 : rd out ((i + j : Nat) : Int) = out.getD (i + j) 0 := rfl
    obtain ⟨out2, e1, e2, e3, e4⟩ := ih k (j + 1) (out.set (i + j) (out.getD (i + j) 0 + xs.getD i 0 * ys.getD j 0)) (M + 81) (by omega) (by omega) (by omega) (by omega) (bnd_set hb _ _ (by omega) (by omega) (by omega)) (by rw [List.length_set]; exact hl)
    refine ⟨out2, ?_, fun y hy => by have := e2 y hy; omega, e3, ?_⟩
    · rw [← e1]
      rw [show k + (d + 1) + 1 = (k + d + 1) + 1 from by omega]
      generalize k + d + 1 = K
      conv => lhs; rw [gantlineref05_mul.l1]
      rw [if_pos (by omega), e, w64 (x := ((i + j : Nat) : Int)) (by omega) (by omega), if_pos (by omega), if_pos (by omega), if_pos (by omega), if_pos (by omega), if_pos (by omega), r1, r2, r3, w64 (x := xs.getD i 0 * ys.getD j 0) (by omega) (by omega), w64 (x := out.getD (i + j) 0 + xs.getD i 0 * ys.getD j 0) (by omega) (by omega), w64 (x := (j : Int) + 1) (by omega) (by omega), ntn]
      rfl
    · rw [e4, bv_set _ _ _ _ (by omega), bv_take_succ _ _ _ (by omega), Int.pow_add]
      grind
theorem rmul_outer (xs ys : List Int) (hx : Bnd 9 xs) (hy : Bnd 9 ys) (hnx : xs.length ≤ 1000) (hny : ys.length ≤ 1000) : ∀ (d k i : Nat) (out : List Int), xs.length - i = d → i ≤ xs.length → Bnd (100000 * i) out → out.length = xs.length + ys.length → (ys.length + 2) * d + 100000 < k →
    gantlineref05_mul.l0 k i xs ys out = some ⟨(decN (bv 10 out + (bv 10 xs - bv 10 (xs.take i)) * bv 10 ys).toNat).toArray⟩ := by
  intro d
  induction d with
  | zero =>
    intro k i out hd hi hb hl hk
    obtain ⟨k, rfl⟩ : ∃ q, k = q + 1 := ⟨k - 1, by omega⟩
    obtain rfl : i = xs.length := by omega
    rw [gantlineref05_mul.l0, if_neg (by omega), text_eq out (by omega) (fun y hy => by have := hb y hy; omega) k (by omega), Option.bind_some, List.take_length]
    simp
  | succ d ih =>
    intro k i out hd hi hb hl hk
    rw [Nat.mul_succ] at hk
    obtain ⟨q, rfl⟩ : ∃ q, k = (q + ys.length + 1) + 1 := ⟨k - ys.length - 2, by omega⟩
    obtain ⟨out2, e1, e2, e3, e4⟩ := rmul_inner xs ys i hx hy (by omega) hnx hny ys.length q 0 out (100000 * i) (by omega) (by omega) (by omega) (by omega) hb hl
    rw [show ((0 : Nat) : Int) = 0 from rfl] at e1
    rw [gantlineref05_mul.l0, if_pos (by omega), e1, ih q (i + 1) out2 (by omega) (by omega) (fun y hy => by have := e2 y hy; omega) e3 (by omega), e4, bv_take_succ _ _ _ (by omega)]
    simp only [List.take_zero, bv]
    congr 5
    grind
theorem ref_mul_eq (a b : ByteArray) (h : Fit a b) (k : Nat) (hk : 2000000 < k) : gantlineref05_mul.f k a b = some ⟨(decN (vA a * vA b)).toArray⟩ := by
  have la : (dL a.data.toList).length = a.size := by rw [dL_len, szl]
  have lb : (dL b.data.toList).length = b.size := by rw [dL_len, szl]
  have sa := h.sa
  have sb := h.sb
  unfold gantlineref05_mul.f
  rw [ref_digits_eq a (by omega) k (by omega), Option.bind_some, ref_digits_eq b (by omega) k (by omega), Option.bind_some]
  rw [show ((dL a.data.toList).length : Int) + ((dL b.data.toList).length : Int) = (((dL a.data.toList).length + (dL b.data.toList).length : Nat) : Int) from by omega, w64 (by omega) (by omega), if_pos (by omega), ntn, if_pos (by omega)]
  have h1 : ((dL b.data.toList).length + 2) * (dL a.data.toList).length ≤ 802 * 800 := Nat.mul_le_mul (by omega) (by omega)
  have := rmul_outer (dL a.data.toList) (dL b.data.toList) (dL_small _ h.da) (dL_small _ h.db) (by omega) (by omega) (dL a.data.toList).length k 0 (List.replicate ((dL a.data.toList).length + (dL b.data.toList).length) 0) (by omega) (by omega) (bnd_rep _ _ (by omega)) (by simp) (by omega)
  rw [show ((0 : Nat) : Int) = 0 from rfl] at this
  rw [this]
  simp only [List.take_zero, bv_replicate, dL_val _ _ rfl h.da, dL_val _ _ rfl h.db]
  congr 4
  simp only [bv, vA]
  rw [Int.zero_add, Int.sub_zero, ← Int.natCast_mul, Int.toNat_natCast]
theorem ref_Mul_j0 (a b : ByteArray) (h : Fit a b) (k : Nat) (hk : 2000001 < k) : gantlineref05_Mul.j0 k a b false = some (shortN (vA a * vA b)) := by
  obtain ⟨k, rfl⟩ : ∃ q, k = q + 1 := ⟨k - 1, by omega⟩
  rw [gantlineref05_Mul.j0, if_neg (by simp), ref_mul_eq a b h k (by omega), Option.bind_some, ref_short_eq, Option.bind_some]
end Go.Proofs.YtfndkpifgmcomaaDoor.Q
end
section
namespace Go.Proofs.YtfndkpifgmcomaaDoor.Q
open Go.RowKit Go.Proofs.YtfndkpifgmcomaaDoor.XD Go.Proofs.YtfndkpifgmcomaaDoorW.PrintWords Go.Proofs.YtfndkpifgmcomaaDoorW.PrintLast Go.Proofs.YtfndkpifgmcomaaDoorW.PrintMore
open Go.Proofs.YtfndkpifgmcomaaDoor.QNum (bv bv_append bv_set bv_nonneg bv_replicate isNum isNum_iff vN decN)
set_option linter.unusedVariables false
theorem short_eq (l : List Int) (hn : l.length ≤ 100000) (hs : ∀ y ∈ l, 0 ≤ y ∧ y ≤ 9223372036854775807) (k : Nat) (hk : 300000 < k) :
    nat_number_short.f k l = some (shortN (bv BB l).toNat) := by
  obtain ⟨ys, e1, e2, e3, e4⟩ := carry_eq l (by omega) hs k (by omega)
  unfold nat_number_short.f
  rw [e1, Option.bind_some, digits_eq ys e3 (by omega), Option.bind_some, e2, szl]
  show (if (((decN (bv BB l).toNat).length : Nat) : Int) > 800 then _ else _) = _
  unfold shortN
  by_cases h : 800 < (decN (bv BB l).toNat).length
  · rw [if_pos (by omega), if_pos h]
  · rw [if_neg (by omega), if_neg h]
theorem all_same (s : ByteArray) (h : ∀ c ∈ s.data.toList, QNum.isDig c = true) : s.data.toList.all XD.isDig = true := by
  rw [List.all_eq_true]
  exact fun c hc => h c hc
theorem nread {a b : ByteArray} (h : Fit a b) : ∃ xs, nat_read.f a = some xs ∧ bv BB xs = (vA a : Int) ∧ Lim xs ∧ xs.length ≤ 100 := by
  have sa := h.sa
  obtain ⟨xs, e1, e2, e3, e4⟩ := read_eq a (all_same a h.da) (by omega)
  exact ⟨xs, e1, e2, e3, by omega⟩
theorem Fit.symm {a b : ByteArray} (h : Fit a b) : Fit b a := ⟨h.nb, h.na, h.sb, h.sa⟩
theorem both_j0 (a b : ByteArray) (k : Nat) (hk : 0 < k) {xs ys : List Int} (h1 : nat_read.f a = some xs) (h2 : nat_read.f b = some ys) : nat_both.j0 k a b false = some (xs, ys, true) := by
  obtain ⟨k, rfl⟩ : ∃ q, k = q + 1 := ⟨k - 1, by omega⟩
  rw [nat_both.j0, if_neg (by simp), h1, Option.bind_some, h2, Option.bind_some]
theorem okS_fit {a b : ByteArray} (ha : okS a = true) (hb : okS b = true) : Fit a b := by
  unfold okS at ha hb
  rw [Bool.and_eq_true, decide_eq_true_eq] at ha hb
  exact ⟨ha.1, hb.1, ha.2, hb.2⟩
theorem both_eq (a b : ByteArray) (ha : a.size ≤ 140737488351232) (hb : b.size ≤ 140737488351232) (k : Nat) (hk : 0 < k) :
    (Fit a b → ∃ xs ys, nat_both.f k a b = some (xs, ys, true) ∧ bv BB xs = (vA a : Int) ∧ bv BB ys = (vA b : Int) ∧ Lim xs ∧ Lim ys ∧ xs.length ≤ 100 ∧ ys.length ≤ 100) ∧
    ((okS a && okS b) = false → nat_both.f k a b = some ([], [], false)) := by
  have hj : nat_both.j0 k a b true = some ([], [], false) := by
    obtain ⟨k, rfl⟩ : ∃ q, k = q + 1 := ⟨k - 1, by omega⟩
    rw [nat_both.j0, if_pos rfl]
  unfold nat_both.f
  rw [nat_Right_eq a ha, nat_Right_eq b hb, Option.bind_some, Option.bind_some]
  constructor
  · intro h
    obtain ⟨xs, e1, e2, e3, e4⟩ := nread h
    obtain ⟨ys, f1, f2, f3, f4⟩ := nread h.symm
    have oa : okS a = true := by unfold okS; rw [h.na, decide_eq_true h.sa]; rfl
    have ob : okS b = true := by unfold okS; rw [h.nb, decide_eq_true h.sb]; rfl
    refine ⟨xs, ys, ?_, e2, f2, e3, f3, e4, f4⟩
    rw [oa, ob, if_pos rfl]
    exact both_j0 a b k hk e1 f1
  · intro h
    cases h1 : okS a
    · rw [if_neg (by simp)]; exact hj
    · rw [h1, Bool.true_and] at h
      rw [if_pos rfl, h]; exact hj
theorem nat_Mul_eq (a b : ByteArray) (ha : a.size ≤ 140737488351232) (hb : b.size ≤ 140737488351232) (k : Nat) (hk : 3000000 < k) :
    nat_Mul.f k a b = some (if okS a && okS b then shortN (vA a * vA b) else (⟨#[]⟩, 1)) := by
  obtain ⟨h1, h2⟩ := both_eq a b ha hb k (by omega)
  unfold nat_Mul.f
  cases h : (okS a && okS b)
  · rw [h2 h]; rfl
  · rw [Bool.and_eq_true] at h
    obtain ⟨xs, ys, e1, e2, e3, e4, e5, e6, e7⟩ := h1 (okS_fit h.1 h.2)
    obtain ⟨r, f1, f2, f3, f4⟩ := times_eq xs ys e4 e5 (by omega) k (by omega)
    rw [e1, Option.bind_some]
    simp only [if_true]
    rw [f1, Option.bind_some, short_eq r (by omega) (fun y hy => by have := f2.small y hy; omega) k (by omega), Option.bind_some, f3, e2, e3, ← Int.natCast_mul, Int.toNat_natCast]
end Go.Proofs.YtfndkpifgmcomaaDoor.Q
end
section
namespace Go.Proofs.YtfndkpifgmcomaaDoor.Q
open Go.RowKit Go.Proofs.YtfndkpifgmcomaaDoor.XD Go.Proofs.YtfndkpifgmcomaaDoorW.PrintWords Go.Proofs.YtfndkpifgmcomaaDoorW.PrintLast Go.Proofs.YtfndkpifgmcomaaDoorW.PrintMore
open Go.Proofs.YtfndkpifgmcomaaDoor.QNum (bv bv_append bv_set bv_nonneg bv_replicate isNum isNum_iff vN decN num_eq decN_len vN_lt)
set_option linter.unusedVariables false
theorem ref_Mul_eq (a b : ByteArray) (ha : a.size ≤ 140737488351232) (hb : b.size ≤ 140737488351232) (k : Nat) (hk : 3000000 < k) :
    gantlineref05_Mul.f k a b = some (if okS a && okS b then shortN (vA a * vA b) else (⟨#[]⟩, 1)) := by
  have hj : gantlineref05_Mul.j0 k a b true = some (⟨#[]⟩, 1) := by
    obtain ⟨k, rfl⟩ : ∃ q, k = q + 1 := ⟨k - 1, by omega⟩
    rw [gantlineref05_Mul.j0, if_pos rfl]
  unfold gantlineref05_Mul.f
  rw [ref_Right_eq a ha k (by omega), ref_Right_eq b hb k (by omega), Option.bind_some, Option.bind_some]
  cases h1 : okS a
  · rw [if_neg (by simp)]; exact hj
  · cases h2 : okS b
    · rw [if_pos rfl]; exact hj
    · rw [if_pos rfl]; exact ref_Mul_j0 a b (okS_fit h1 h2) k (by omega)
theorem short_small {v k : Nat} (h : v < 10 ^ k) (h0 : 0 < k) (h1 : k ≤ 800) : shortN v = (⟨(decN v).toArray⟩, 0) := by
  unfold shortN
  have := decN_len v k h h0
  rw [if_neg (by omega)]
end Go.Proofs.YtfndkpifgmcomaaDoor.Q
end
section
namespace Go.Proofs.YtfndkpifgmcomaaDoor.Q
open Go.RowKit Go.Proofs.YtfndkpifgmcomaaDoor.XD Go.Proofs.YtfndkpifgmcomaaDoorW.PrintWords Go.Proofs.YtfndkpifgmcomaaDoorW.PrintLast Go.Proofs.YtfndkpifgmcomaaDoorW.PrintMore
open Go.Proofs.YtfndkpifgmcomaaDoor.QNum (bv bv_append bv_set bv_nonneg bv_replicate isNum isNum_iff vN decN num_eq decN_len vN_lt decN_isNum vN_decN decN_lt decN_ge decN_ne)
set_option linter.unusedVariables false
theorem canon_len {ys : List Int} (h : Canon ys) {n : Nat} (hv : bv BB ys < BB ^ n) : ys.length ≤ n := by
  rcases Nat.lt_or_ge n ys.length with hl | hl
  · exfalso
    have hne : ys ≠ [] := by intro e; simp [e] at hl
    obtain ⟨q, c, rfl⟩ : ∃ q c, ys = q ++ [c] := ⟨ys.dropLast, ys.getLast hne, (List.dropLast_concat_getLast hne).symm⟩
    have hc := h.top q c rfl
    have hc2 := h.small c (by simp)
    have hq := bv_nonneg BB (by unfold BB; omega) q (fun y hy => (h.small y (List.mem_append_left _ hy)).1)
    rw [bv_append] at hv
    simp only [bv, Int.mul_zero, Int.add_zero] at hv
    have hp : BB ^ n ≤ BB ^ q.length := by
      have e : q.length = n + (q.length - n) := by simp at hl; omega
      rw [e, Int.pow_add]
      have h1 := BBpow_pos n
      have h2 := BBpow_pos (q.length - n)
      have := Int.mul_le_mul_of_nonneg_left (show 1 ≤ BB ^ (q.length - n) from by omega) (Int.le_of_lt h1)
      omega
    have h3 : BB ^ q.length * 1 ≤ BB ^ q.length * c := Int.mul_le_mul_of_nonneg_left (by omega) (Int.le_of_lt (BBpow_pos _))
    omega
  · exact hl
theorem ple (b m k : Nat) (hb : 0 < b) (h : m ≤ k) : b ^ m ≤ b ^ k := Nat.pow_le_pow_right hb h
theorem small_pow {b e : Nat} (hb : b ≤ 5) (he : e ≤ 1074) : b ^ e ≤ 5 ^ 1074 := by
  have h1 := Nat.pow_le_pow_left hb e
  have h2 := ple 5 e 1074 (by decide) he
  exact Nat.le_trans h1 h2
theorem lt16 {m : Nat} (h : m < 10 ^ 16) : m < 10 ^ 800 := by
  have h2 := ple 10 16 800 (by decide) (by decide)
  exact Nat.lt_of_lt_of_le h h2
theorem lt760 {m : Nat} (h : m < 10 ^ 760) : m < 10 ^ 800 := by
  have h2 := ple 10 760 800 (by decide) (by decide)
  exact Nat.lt_of_lt_of_le h h2
theorem five : (5 : Nat) ^ 1074 < 10 ^ 760 := by decide +kernel
theorem ten_BB : (10 : Nat) ^ 760 < 1000000000 ^ 89 := by decide +kernel
theorem pow_len {ys : List Int} (h : Canon ys) {v : Nat} (hv : bv BB ys = (v : Int)) (hs : v ≤ 5 ^ 1074) : ys.length ≤ 89 := by
  refine canon_len h ?_
  rw [hv]
  have h1 : v < 1000000000 ^ 89 := Nat.lt_of_le_of_lt hs (Nat.lt_trans five ten_BB)
  have h2 : ((1000000000 ^ 89 : Nat) : Int) = BB ^ 89 := by rw [Int.natCast_pow]; rfl
  rw [← h2]
  exact Int.ofNat_lt.2 h1
theorem pow_l0 (b e : Nat) (hb : b ≤ 5) (he : e ≤ 1074) : ∀ (d k i : Nat) (x : List Int), i + d = e → Canon x → bv BB x = ((b ^ i : Nat) : Int) → d + 3000000 < k →
    nat_Power.l0 k x [(b : Int)] e i = some (shortN (b ^ e)) := by
  intro d
  induction d with
  | zero =>
    intro k i x hi hc hv hk
    obtain ⟨k, rfl⟩ : ∃ q, k = q + 1 := ⟨k - 1, by omega⟩
    obtain rfl : i = e := by omega
    have hl := pow_len hc hv (small_pow hb he)
    rw [nat_Power.l0, if_neg (by omega), short_eq x (by omega) (fun y hy => by have := hc.small y hy; omega) k (by omega), Option.bind_some, hv, Int.toNat_natCast]
  | succ d ih =>
    intro k i x hi hc hv hk
    obtain ⟨k, rfl⟩ : ∃ q, k = q + 1 := ⟨k - 1, by omega⟩
    have hl := pow_len hc hv (small_pow hb (by omega))
    obtain ⟨r, e1, e2, e3, e4⟩ := times_eq x [(b : Int)] hc.small (fun y hy => by
      have hy : y = (b : Int) := by simpa using hy
      omega) (by simp; omega) k (by omega)
    have hv2 : bv BB r = ((b ^ (i + 1) : Nat) : Int) := by rw [e3, hv]; simp only [bv, Int.mul_zero, Int.add_zero]; rw [← Int.natCast_mul, Nat.pow_succ]
    have hl2 := pow_len e2 hv2 (small_pow hb (by omega))
    rw [nat_Power.l0, if_pos (by omega), e1, Option.bind_some, if_neg (by omega), w64 (by omega) (by omega)]
    exact ih k (i + 1) r (by omega) e2 hv2 (by omega)
theorem power_eq (b e : Nat) (hb : b ≤ 5) (he : e ≤ 1074) (k : Nat) (hk : 4000000 < k) : nat_Power.f k b e = some (⟨(decN (b ^ e)).toArray⟩, 0) := by
  obtain ⟨k, rfl⟩ : ∃ q, k = q + 1 := ⟨k - 1, by omega⟩
  have hd : decide ((e : Int) > 4000) = false := by rw [decide_eq_false_iff_not]; omega
  unfold nat_Power.f
  rw [if_neg (by omega), if_neg (by omega), if_neg (by omega), hd, nat_Power.j0, if_neg (by simp), wu (by omega) (by omega)]
  have := pow_l0 b e hb he e k 0 [1] (by omega) ⟨fun y hy => by
    have hy : y = 1 := by simpa using hy
    omega, fun q c h => by
    have hc := (List.append_inj_right' (show [] ++ [(1 : Int)] = q ++ [c] from h) rfl)
    simp at hc
    omega⟩ (by simp [bv]) (by omega)
  rw [show ((0 : Nat) : Int) = 0 from rfl] at this
  rw [this, short_small (Nat.lt_of_le_of_lt (small_pow hb he) five) (by omega) (by omega)]
theorem word_eq (n : Nat) (h : n < 18446744073709551616) (k : Nat) (hk : 50 < k) : nat_FromWord.f k n = some ⟨(decN n).toArray⟩ := by
  rw [fromWord_eq n h k hk, dec10_decN n (by omega)]
theorem bytes_app (a b : List UInt8) : (⟨a.toArray⟩ : ByteArray) ++ (⟨b.toArray⟩ : ByteArray) = ⟨(a ++ b).toArray⟩ := by
  apply ByteArray.ext
  simp
theorem one_dig (n : Nat) : strOfNums [IntKind.u64.wrap (48 + Int.tmod (n : Int) 10) % 256] = ⟨[UInt8.ofNat (48 + n % 10)].toArray⟩ := by
  rw [tmod_ (by omega), wu (by omega) (by omega)]
  unfold strOfNums
  simp only [List.map_cons, List.map_nil]
  congr 4
  omega
theorem rword_l0 : ∀ (m n k : Nat) (t : List UInt8), n < 10 ^ m → n < 18446744073709551616 → t.length + m ≤ 1000 → m < k →
    gantlineref05_FromWord.l0 k n ⟨t.toArray⟩ false = some ⟨((if n = 0 then [] else decN n) ++ t).toArray⟩ := by
  intro m
  induction m with
  | zero =>
    intro n k t hn _ ht hk
    obtain ⟨k, rfl⟩ : ∃ q, k = q + 1 := ⟨k - 1, by omega⟩
    obtain rfl : n = 0 := by simp at hn; omega
    rw [gantlineref05_FromWord.l0, if_neg (by simp), if_neg (by simp)]
    rfl
  | succ m ih =>
    intro n k t hn h64 ht hk
    obtain ⟨k, rfl⟩ : ∃ q, k = q + 1 := ⟨k - 1, by omega⟩
    by_cases h0 : n = 0
    · subst h0
      rw [gantlineref05_FromWord.l0, if_neg (by simp), if_neg (by simp)]
      rfl
    · rw [gantlineref05_FromWord.l0, if_neg (by simp), if_pos (by omega), Option.bind_some, one_dig, bytes_app, tdiv_ (by omega), wu (by omega) (by omega)]
      rw [if_pos (by
        show ([UInt8.ofNat (48 + n % 10)].toArray).size + t.toArray.size ≤ _
        simp; omega)]
      rw [show (n : Int) / 10 = ((n / 10 : Nat) : Int) from by omega]
      rw [Nat.pow_succ] at hn
      rw [ih (n / 10) k _ (by omega) (by omega) (by simp; omega) (by omega), if_neg h0]
      by_cases h1 : n / 10 = 0
      · rw [if_pos h1, decN_lt (by omega), show n % 10 = n from by omega]
        rfl
      · rw [if_neg h1, decN_ge (n := n) (by omega)]
        simp
theorem rword_eq (n : Nat) (h : n < 18446744073709551616) (k : Nat) (hk : 50 < k) : gantlineref05_FromWord.f k n = some ⟨(decN n).toArray⟩ := by
  obtain ⟨k, rfl⟩ : ∃ q, k = q + 1 := ⟨k - 1, by omega⟩
  unfold gantlineref05_FromWord.f
  have e0 : (⟨#[]⟩ : ByteArray) = ⟨([] : List UInt8).toArray⟩ := rfl
  rw [gantlineref05_FromWord.l0, if_pos rfl, Option.bind_some, one_dig, e0, bytes_app, tdiv_ (by omega), wu (by omega) (by omega)]
  rw [if_pos (by
    show ([UInt8.ofNat (48 + n % 10)].toArray).size + ([] : List UInt8).toArray.size ≤ _
    simp)]
  rw [show (n : Int) / 10 = ((n / 10 : Nat) : Int) from by omega]
  rw [rword_l0 20 (n / 10) k _ (by omega) (by omega) (by simp) (by omega)]
  by_cases h1 : n / 10 = 0
  · rw [if_pos h1, decN_lt (n := n) (by omega), show n % 10 = n from by omega]
    rfl
  · rw [if_neg h1, decN_ge (n := n) (by omega)]
    simp
theorem dec_fit {u v : Nat} (hu : u < 10 ^ 800) (hv : v < 10 ^ 800) : Fit ⟨(decN u).toArray⟩ ⟨(decN v).toArray⟩ where
  na := decN_isNum u
  nb := decN_isNum v
  sa := decN_len u 800 hu (by omega)
  sb := decN_len v 800 hv (by omega)
theorem vA_dec (u : Nat) : vA ⟨(decN u).toArray⟩ = u := vN_decN u
theorem size_dec (u : Nat) : (⟨(decN u).toArray⟩ : ByteArray).size = (decN u).length := rfl
theorem rpow_l0 : ∀ (n k v u : Nat), 1 ≤ v → 1 ≤ u → v * u ^ n < 10 ^ 800 → n ≤ 4000 → 2 * n + 3000000 < k →
    gantlineref05_Power.l0 k n ⟨(decN v).toArray⟩ ⟨(decN u).toArray⟩ = some (⟨(decN (v * u ^ n)).toArray⟩, 0) := by
  intro n
  induction n using Nat.strongRecOn with
  | ind n ih =>
    intro k v u hv hu hvu hn hk
    obtain ⟨k, rfl⟩ : ∃ q, k = q + 1 + 1 := ⟨k - 2, by omega⟩
    by_cases h0 : n = 0
    · subst h0
      rw [gantlineref05_Power.l0, if_neg (by omega)]
      simp
    · have hun : u ≤ u ^ n := by
        have := Nat.pow_le_pow_right hu (show 1 ≤ n from by omega)
        rwa [Nat.pow_one] at this
      have huv : u ^ n ≤ v * u ^ n := Nat.le_mul_of_pos_left _ hv
      have hu8 : u < 10 ^ 800 := by omega
      have hpp : 1 ≤ u ^ n := Nat.le_trans hu hun
      have hv8 : v < 10 ^ 800 := Nat.lt_of_le_of_lt (Nat.le_mul_of_pos_right _ hpp) hvu
      have su := decN_len u 800 hu8 (by omega)
      have e2 : n = 2 * (n / 2) + n % 2 := by omega
      have esq : u ^ n = (u * u) ^ (n / 2) * u ^ (n % 2) := by
        conv => lhs; rw [e2]
        rw [Nat.pow_add, Nat.pow_mul, show u ^ 2 = u * u from by rw [Nat.pow_succ, Nat.pow_one]]
      have half : ∀ v', 1 ≤ v' → v' * (u * u) ^ (n / 2) = v * u ^ n → gantlineref05_Power.j2 (k + 1) n ⟨(decN v').toArray⟩ ⟨(decN u).toArray⟩ = some (⟨(decN (v * u ^ n)).toArray⟩, 0) := by
        intro v' hv' he
        have huu : 1 ≤ u * u := Nat.mul_le_mul hu hu
        have hpp2 : 1 ≤ (u * u) ^ (n / 2) := Nat.pow_pos huu
        have hv'8 : v' < 10 ^ 800 := Nat.lt_of_le_of_lt (Nat.le_mul_of_pos_right _ hpp2) (he ▸ hvu)
        have sv := decN_len v' 800 hv'8 (by omega)
        rw [gantlineref05_Power.j2, size_dec, if_neg (by omega), tdiv_ (by omega), show (n : Int) / 2 = ((n / 2 : Nat) : Int) from by omega, w64 (by omega) (by omega)]
        by_cases h2 : n / 2 = 0
        · rw [if_neg (by omega), h2]
          rw [h2, Nat.pow_zero, Nat.mul_one] at he
          have := ih 0 (by omega) k v' u hv' hu (by rw [Nat.pow_zero, Nat.mul_one]; exact hv'8) (by omega) (by omega)
          rw [this, Nat.pow_zero, Nat.mul_one, he]
        · rw [if_pos (by omega), ref_mul_eq _ _ (dec_fit hu8 hu8) k (by omega), Option.bind_some, vA_dec]
          rw [ih (n / 2) (by omega) k v' (u * u) hv' huu (he ▸ hvu) (by omega) (by omega), he]
      rw [gantlineref05_Power.l0, if_pos (by omega), size_dec, if_neg (by omega), tmod_ (by omega)]
      by_cases hodd : n % 2 = 1
      · rw [if_pos (by omega), ref_mul_eq _ _ (dec_fit hv8 hu8) (k + 1) (by omega), Option.bind_some, vA_dec, vA_dec]
        refine half (v * u) (Nat.mul_le_mul hv hu) ?_
        rw [esq, hodd, Nat.pow_one, Nat.mul_assoc, Nat.mul_comm u]
      · rw [if_neg (by omega)]
        refine half v hv ?_
        rw [esq, show n % 2 = 0 from by omega, Nat.pow_zero, Nat.mul_one]
theorem rpower_eq (b e : Nat) (hb : b ≤ 5) (hb1 : 1 ≤ b) (he : e ≤ 1074) (k : Nat) (hk : 4000000 < k) : gantlineref05_Power.f k b e = some (⟨(decN (b ^ e)).toArray⟩, 0) := by
  obtain ⟨k, rfl⟩ : ∃ q, k = q + 1 := ⟨k - 1, by omega⟩
  have hd : decide ((e : Int) > 4000) = false := by rw [decide_eq_false_iff_not]; omega
  unfold gantlineref05_Power.f
  rw [if_neg (by omega), if_neg (by omega), if_neg (by omega), hd, gantlineref05_Power.j0, if_neg (by simp), wu (by omega) (by omega), rword_eq b (by omega) k (by omega), Option.bind_some]
  have e1 : (⟨#[49]⟩ : ByteArray) = ⟨(decN 1).toArray⟩ := by rw [decN_lt (by omega)]; rfl
  have h1 : b ^ e < 10 ^ 800 := lt760 (Nat.lt_of_le_of_lt (small_pow hb he) five)
  rw [e1, rpow_l0 e k 1 b (by omega) hb1 (by rw [Nat.one_mul]; exact h1) (by omega) (by omega), Nat.one_mul]
end Go.Proofs.YtfndkpifgmcomaaDoor.Q
end
section
namespace Go.Proofs.YtfndkpifgmcomaaDoor.Q
open Go.RowKit Go.Proofs.YtfndkpifgmcomaaDoor.XD Go.Proofs.YtfndkpifgmcomaaDoorW.PrintWords Go.Proofs.YtfndkpifgmcomaaDoorW.PrintLast Go.Proofs.YtfndkpifgmcomaaDoorW.PrintMore
open Go.Proofs.YtfndkpifgmcomaaDoor.QNum (isNum isNum_iff vN decN decN_len decN_isNum vN_decN decN_lt decN_ge decN_ne decN_head ofNat_toNat)
set_option linter.unusedVariables false
theorem decN_zeros (m : Nat) (hm : m ≠ 0) : ∀ z, decN (m * 10 ^ z) = decN m ++ List.replicate z 48
  | 0 => by simp
  | z + 1 => by
    have h1 : 1 ≤ m * 10 ^ z := Nat.mul_pos (by omega) (Nat.pow_pos (by omega))
    rw [Nat.pow_succ, ← Nat.mul_assoc, decN_ge (by omega), show m * 10 ^ z * 10 / 10 = m * 10 ^ z from by omega, show m * 10 ^ z * 10 % 10 = 0 from by omega, decN_zeros m hm z, List.replicate_succ', ← List.append_assoc]
    rfl
theorem strip10 : ∀ (v : Nat), v ≠ 0 → ∃ m z, v = m * 10 ^ z ∧ m % 10 ≠ 0 := by
  intro v
  induction v using Nat.strongRecOn with
  | ind v ih =>
    intro hv
    by_cases h : v % 10 = 0
    · obtain ⟨m, z, e, hm⟩ := ih (v / 10) (by omega) (by omega)
      exact ⟨m, z + 1, by rw [Nat.pow_succ, ← Nat.mul_assoc, ← e]; omega, hm⟩
    · exact ⟨v, 0, by simp, h⟩
theorem last_dig {m : Nat} (hm : m % 10 ≠ 0) : ∃ q c, decN m = q ++ [c] ∧ c ≠ 48 := by
  have hc : UInt8.ofNat (48 + m % 10) ≠ 48 := by
    intro e
    have := ofNat_toNat (m % 10) (by omega)
    rw [e] at this
    have h48 : (48 : UInt8).toNat = 48 := rfl
    omega
  by_cases h : m < 10
  · exact ⟨[], UInt8.ofNat (48 + m % 10), by rw [decN_lt h, show m % 10 = m from by omega]; rfl, hc⟩
  · exact ⟨decN (m / 10), _, decN_ge h, hc⟩
theorem has48 (c : UInt8) : ([48] : List UInt8).contains c = (c == 48) := by
  simp only [List.contains, List.elem]
  cases (c == 48) <;> rfl
theorem trimR {m z : Nat} (hm : m % 10 ≠ 0) : Lib.trimRightS (decN m ++ List.replicate z 48) [48] = decN m := by
  obtain ⟨q, c, e, hc⟩ := last_dig hm
  have := Lib.trimRightS_take (decN m ++ List.replicate z 48) [48] (decN m).length (by simp) (fun j b hj hb => by
    rw [List.getElem?_append_right hj] at hb
    have := List.mem_of_getElem? hb
    rw [has48, List.eq_of_mem_replicate this]
    rfl) (fun b h0 hb => by
    rw [List.getElem?_append_left (by omega), e] at hb
    simp at hb
    rw [has48, ← hb]
    simpa using hc)
  rw [this, List.take_left]
theorem trimL {m : Nat} (hm : m ≠ 0) : Lib.trimLeftS (decN m) [48] = decN m := by
  have := Lib.trimLeftS_drop (decN m) [48] 0 (by omega) (fun j b hj => by omega) (fun b hb => by
    rw [has48]
    have h := decN_head m hm
    rw [List.head?_eq_getElem?, hb] at h
    simpa using h)
  rw [this, List.drop_zero]
theorem ne48 {m : Nat} (hm : m ≠ 0) : decN m ≠ [48] := by
  intro e
  have := vN_decN m
  rw [e] at this
  have h0 : vN [48] = 0 := by decide
  omega
def bs (l : List UInt8) : ByteArray := ⟨l.toArray⟩
theorem bs_list (l : List UInt8) : (bs l).toList = l := by rw [ByteArray.toList_eq]; rfl
theorem bs_data (l : List UInt8) : (bs l).data.toList = l := rfl
theorem bs_size (l : List UInt8) : (bs l).size = l.length := rfl
theorem okS_dec {m : Nat} (h : m < 10 ^ 800) : okS (bs (decN m)) = true := by
  unfold okS
  rw [bs_data, decN_isNum, bs_size, decide_eq_true (decN_len m 800 h (by omega))]
  rfl
theorem suffix_eq {m : Nat} (hm : m % 10 ≠ 0) (h : m < 10 ^ 800) : strings_HasSuffix.f (bs (decN m)) (⟨#[48]⟩ : ByteArray) = some false := by
  obtain ⟨q, c, e, hc⟩ := last_dig hm
  have hl := decN_len m 800 h (by omega)
  have hp : 0 < (decN m).length := List.length_pos_iff.2 (decN_ne m)
  have h1 : (⟨#[48]⟩ : ByteArray).size = 1 := rfl
  unfold strings_HasSuffix.f stringslite_HasSuffix.f
  rw [bs_size, h1, if_pos (by omega), w64 (by omega) (by omega), if_pos (by omega), if_pos (by omega), Option.bind_some]
  rw [ByteArray.toList_eq, ByteArray.toList_eq]
  have e2 : (((decN m).length : Int) - ((1 : Nat) : Int)).toNat = (decN m).length - 1 := by omega
  rw [e2, e]
  have e3 : ((bs (q ++ [c])).extract ((q ++ [c]).length - 1) (q ++ [c]).length).data.toList = [c] := by
    rw [ByteArray.data_extract]
    simp [bs]
  rw [e3]
  have : (([c] : List UInt8) == [48]) = false := by
    rw [beq_eq_false_iff_ne]
    intro h
    exact hc (by simpa using h)
  rw [this]
theorem dec_Right_eq (neg : Bool) {m : Nat} (hm : m % 10 ≠ 0) (h : m < 10 ^ 800) (e : Int) (h0 : -2000 ≤ e) (h1 : e ≤ 2000) : dec_Right.f neg (bs (decN m)) e = some true := by
  have hl := decN_len m 800 h (by omega)
  unfold dec_Right.f
  rw [nat_Right_eq _ (by rw [bs_size]; omega), okS_dec h, Option.bind_some, if_pos rfl, bs_list, if_neg (ne48 (by omega)), suffix_eq hm h, Option.bind_some, if_neg (by simp), if_pos (by omega), decide_eq_true (by omega)]
theorem dec_Make_eq (neg : Bool) {m z : Nat} (hm : m % 10 ≠ 0) (h : m * 10 ^ z < 10 ^ 800) (hz : z ≤ 800) (e : Int) (h0 : -1100 ≤ e) (h1 : e ≤ 1000) (k : Nat) (hk : 1 < k) :
    dec_Make.f k neg (bs (decN (m * 10 ^ z))) e = some (neg, bs (decN m), e + z, 0) := by
  obtain ⟨k, rfl⟩ : ∃ q, k = q + 1 := ⟨k - 1, by omega⟩
  have hl := decN_len _ 800 h (by omega)
  have hmm : m < 10 ^ 800 := Nat.lt_of_le_of_lt (Nat.le_mul_of_pos_right _ (Nat.pow_pos (by omega))) h
  have hml := decN_len _ 800 hmm (by omega)
  have hlen : (decN (m * 10 ^ z)).length = (decN m).length + z := by rw [decN_zeros m (by omega)]; simp
  have ht := trim_nil (bs (decN (m * 10 ^ z)))
  have hall : (bs (decN (m * 10 ^ z))).data.toList.all QNum.isDig = true := by
    rw [List.all_eq_true]
    exact ((isNum_iff _).1 (decN_isNum _)).1
  rw [hall] at ht
  unfold dec_Make.f
  rw [bs_list, if_neg (decN_ne _), bs_size, if_neg (by omega), trim_f _ (by rw [bs_size]; omega), Option.bind_some]
  have hb : (((⟨(Lib.trimS (bs (decN (m * 10 ^ z))).data.toList digs).toArray⟩ : ByteArray).toList != ([] : List UInt8))) = false := by
    rw [bne, ht]; rfl
  rw [hb, dec_Make.j0, if_neg (by simp)]
  have hR : strings_TrimRight.f (bs (decN (m * 10 ^ z))) (⟨#[48]⟩ : ByteArray) = some (bs (decN m)) := by
    unfold strings_TrimRight.f
    rw [if_pos ⟨by decide, by rw [bs_size]; omega⟩, bs_data, decN_zeros m (by omega)]
    show some (⟨(Lib.trimRightS (decN m ++ List.replicate z 48) [48]).toArray⟩ : ByteArray) = _
    rw [trimR hm]; rfl
  have hL : strings_TrimLeft.f (bs (decN m)) (⟨#[48]⟩ : ByteArray) = some (bs (decN m)) := by
    unfold strings_TrimLeft.f
    rw [if_pos ⟨by decide, by rw [bs_size]; omega⟩, bs_data]
    show some (⟨(Lib.trimLeftS (decN m) [48]).toArray⟩ : ByteArray) = _
    rw [trimL (by omega)]; rfl
  have hx : mn (mx e (-1048576)) 1048576 = e := by unfold mn mx; split <;> split <;> omega
  rw [hR, Option.bind_some, bs_list, if_neg (decN_ne _), hL, Option.bind_some, hx, bs_size, bs_size, hlen]
  rw [w64 (x := e + ((((decN m).length + z : Nat)) : Int)) (by omega) (by omega), show e + ((((decN m).length + z : Nat)) : Int) - ((decN m).length : Int) = e + z from by omega, w64 (by omega) (by omega)]
  rw [dec_Right_eq neg hm hmm (e + z) (by omega) (by omega), Option.bind_some, if_pos rfl]
theorem bs_at (l : List UInt8) (i : Nat) : bt (bs l) (i : Int) = ((l.getD i 0).toNat : Int) := btl (bs l) i
theorem rmake_l0 (neg : Bool) (l : List UInt8) (e : Int) (hd : ∀ c ∈ l, QNum.isDig c = true) (hl : l.length ≤ 1000) : ∀ (d k i : Nat), l.length - i = d → i ≤ l.length →
    gantlineref06_Make.l0 (k + d + 1) neg (bs l) e i = gantlineref06_Make.l1 k neg (bs l) e 0 (l.length : Int) := by
  intro d
  induction d with
  | zero =>
    intro k i hd hi
    rw [gantlineref06_Make.l0, bs_size, if_neg (by omega)]
  | succ d ih =>
    intro k i hd2 hi
    rw [show k + (d + 1) + 1 = (k + d + 1) + 1 from by omega, gantlineref06_Make.l0, bs_size, if_pos (by omega), if_pos (by omega), bs_at]
    have hm : l.getD i 0 ∈ l := by
      rw [List.getD_eq_getElem?_getD, List.getElem?_eq_getElem (by omega)]
      exact List.getElem_mem (by omega)
    have hc := (QNum.isDig_iff _).1 (hd _ hm)
    unfold gantlineref06_digit.f
    rw [if_pos (by omega), Option.bind_some, decide_eq_true (by omega), if_pos rfl, w64 (by omega) (by omega)]
    exact ih k (i + 1) (by omega) (by omega)
theorem ref_Right_true (neg : Bool) {m : Nat} (hm : m % 10 ≠ 0) (h : m < 10 ^ 800) (e : Int) (h0 : -2000 ≤ e) (h1 : e ≤ 2000) (k : Nat) (hk : 802 < k) : gantlineref06_Right.f k neg (bs (decN m)) e = some true := by
  have hl := decN_len m 800 h (by omega)
  have hp : 0 < (decN m).length := List.length_pos_iff.2 (decN_ne m)
  obtain ⟨q, c, eq, hc⟩ := last_dig hm
  have hcn : ((c.toNat : Nat) : Int) ≠ 48 := by
    intro h
    exact hc (UInt8.toNat_inj.1 (by simpa using (show c.toNat = 48 from by omega)))
  unfold gantlineref06_Right.f
  rw [ref_Right_eq _ (by rw [bs_size]; omega) k hk, okS_dec h, Option.bind_some, if_pos rfl, bs_list, if_neg (ne48 (by omega)), bs_size, w64 (by omega) (by omega), if_pos (by omega), if_pos (by omega), show ((decN m).length : Int) - 1 = (((decN m).length - 1 : Nat) : Int) from by omega, bs_at]
  have e1 : (decN m).getD ((decN m).length - 1) 0 = c := by rw [eq]; simp
  rw [e1, if_neg hcn, if_pos (by omega), decide_eq_true (by omega)]
theorem rmake_l2 (neg : Bool) {m : Nat} (hm : m % 10 ≠ 0) (hmm : m < 10 ^ 800) (z : Nat) (hz : z ≤ 800) (e : Int) (h0 : -1100 ≤ e) (h1 : e ≤ 1000) : ∀ (d k : Nat), d ≤ z → d + 2000 < k →
    gantlineref06_Make.l2 k neg (bs (decN m ++ List.replicate z 48)) e 0 (((decN m).length + d : Nat) : Int) = some (neg, bs (decN m), e + z, 0) := by
  have hl := decN_len m 800 hmm (by omega)
  have hp : 0 < (decN m).length := List.length_pos_iff.2 (decN_ne m)
  obtain ⟨q, c, eq, hc⟩ := last_dig hm
  have hcn : ((c.toNat : Nat) : Int) ≠ 48 := by
    intro h
    exact hc (UInt8.toNat_inj.1 (by simpa using (show c.toNat = 48 from by omega)))
  have hsz : (bs (decN m ++ List.replicate z 48)).size = (decN m).length + z := by rw [bs_size]; simp
  intro d
  induction d with
  | zero =>
    intro k hd hk
    obtain ⟨k, rfl⟩ : ∃ q, k = q + 1 + 1 := ⟨k - 2, by omega⟩
    have e1 : (decN m ++ List.replicate z 48).getD ((decN m).length - 1) 0 = c := by
      rw [List.getD_eq_getElem?_getD, List.getElem?_append_left (by omega), eq]; simp
    rw [gantlineref06_Make.l2, w64 (by omega) (by omega), if_pos (by omega), if_pos (by omega), show (((decN m).length + 0 : Nat) : Int) - 1 = (((decN m).length - 1 : Nat) : Int) from by omega, bs_at, e1, if_neg hcn, if_neg (by omega), decide_eq_false (by omega), gantlineref06_Make.j5, if_neg (by simp), if_pos (by omega), if_pos (by omega), if_pos (by omega)]
    have ex : (bs (decN m ++ List.replicate z 48)).extract ((0 : Int)).toNat ((((decN m).length + 0 : Nat)) : Int).toNat = bs (decN m) := by
      apply ByteArray.ext
      rw [ByteArray.data_extract]
      apply Array.ext'
      simp [bs]
    rw [ex, hsz, w64 (x := e + (((decN m).length + z : Nat) : Int)) (by omega) (by omega), show e + (((decN m).length + z : Nat) : Int) - (((decN m).length + 0 : Nat) : Int) = e + z from by omega, w64 (by omega) (by omega)]
    rw [ref_Right_true neg hm hmm (e + z) (by omega) (by omega) k (by omega), Option.bind_some, if_pos rfl]
  | succ d ih =>
    intro k hd hk
    obtain ⟨k, rfl⟩ : ∃ q, k = q + 1 := ⟨k - 1, by omega⟩
    have e1 : (decN m ++ List.replicate z 48).getD ((decN m).length + d) 0 = 48 := by
      rw [List.getD_eq_getElem?_getD, List.getElem?_append_right (by omega), List.getElem?_replicate, if_pos (by omega)]
      rfl
    rw [gantlineref06_Make.l2, w64 (by omega) (by omega), if_pos (by omega), if_pos (by omega), show (((decN m).length + (d + 1) : Nat) : Int) - 1 = (((decN m).length + d : Nat) : Int) from by omega, bs_at, e1, if_pos (by rfl)]
    exact ih k (by omega) (by omega)
theorem ref_Make_eq (neg : Bool) {m z : Nat} (hm : m % 10 ≠ 0) (h : m * 10 ^ z < 10 ^ 800) (hz : z ≤ 800) (e : Int) (h0 : -1100 ≤ e) (h1 : e ≤ 1000) (k : Nat) (hk : 10000 < k) :
    gantlineref06_Make.f k neg (bs (decN (m * 10 ^ z))) e = some (neg, bs (decN m), e + z, 0) := by
  have hl := decN_len _ 800 h (by omega)
  have hmm : m < 10 ^ 800 := Nat.lt_of_le_of_lt (Nat.le_mul_of_pos_right _ (Nat.pow_pos (by omega))) h
  have hml := decN_len _ 800 hmm (by omega)
  have hp : 0 < (decN m).length := List.length_pos_iff.2 (decN_ne m)
  have hz0 := decN_zeros m (show m ≠ 0 by omega) z
  have hlen : (decN (m * 10 ^ z)).length = (decN m).length + z := by rw [hz0]; simp
  have hdig := ((isNum_iff _).1 (decN_isNum (m * 10 ^ z))).1
  have hhead := decN_head m (by omega)
  obtain ⟨k, rfl⟩ : ∃ q, k = (q + 1 + 1 + (decN (m * 10 ^ z)).length + 1) + 1 := ⟨k - (decN (m * 10 ^ z)).length - 4, by omega⟩
  have hg : (decN (m * 10 ^ z)).getD 0 0 ≠ 48 := by
    rw [hz0, List.getD_eq_getElem?_getD, List.getElem?_append_left hp, ← List.getD_eq_getElem?_getD]
    intro e2
    apply hhead
    rw [List.head?_eq_getElem?, List.getElem?_eq_getElem hp, ← e2, List.getD_eq_getElem?_getD, List.getElem?_eq_getElem hp]
    rfl
  have hgn : (((decN (m * 10 ^ z)).getD 0 0).toNat : Int) ≠ 48 := by
    intro h
    exact hg (UInt8.toNat_inj.1 (by simpa using (show ((decN (m * 10 ^ z)).getD 0 0).toNat = 48 from by omega)))
  unfold gantlineref06_Make.f
  have hd : decide (((bs (decN (m * 10 ^ z))).size : Int) > 4096) = false := decide_eq_false (by rw [bs_size]; omega)
  rw [bs_list, if_neg (decN_ne _), hd, gantlineref06_Make.j0, if_neg (by simp)]
  have := rmake_l0 neg (decN (m * 10 ^ z)) e hdig (by omega) (decN (m * 10 ^ z)).length (k + 1 + 1) 0 (by omega) (by omega)
  rw [show ((0 : Nat) : Int) = 0 from rfl] at this
  rw [this, gantlineref06_Make.l1, if_pos (by omega), if_pos (by omega), bs_size, if_pos (by omega)]
  have hb0 := bs_at (decN (m * 10 ^ z)) 0
  rw [show ((0 : Nat) : Int) = 0 from rfl] at hb0
  rw [hb0, if_neg hgn, gantlineref06_Make.j3, if_neg (by omega), hz0]
  have := rmake_l2 neg hm hmm z hz e h0 h1 z k (by omega) (by omega)
  rw [← this]
  congr 1
  simp
end Go.Proofs.YtfndkpifgmcomaaDoor.Q
end
section
namespace Go.Proofs.YtfndkpifgmcomaaDoor.Q
open Go Go.RowKit Go.Proofs.YtfndkpifgmcomaaDoor.XD Go.Proofs.YtfndkpifgmcomaaDoorW.PrintWords Go.Proofs.YtfndkpifgmcomaaDoorW.PrintLast Go.Proofs.YtfndkpifgmcomaaDoorW.PrintMore
open Go.Proofs.YtfndkpifgmcomaaDoor.QNum (isNum isNum_iff vN decN decN_len decN_isNum vN_decN decN_lt decN_ge decN_ne decN_head)
set_option linter.unusedVariables false
theorem parts8 (n : Nat) (hn : n < 18446744073709551616) : flt_format_parts.f 8 11 52 (n : Int) = some (((n / 9223372036854775808 : Nat) : Int), ((n / 4503599627370496 % 2048 : Nat) : Int), ((n % 4503599627370496 : Nat) : Int)) :=
  parts_eq 8 11 52 n hn (by omega) (by omega) (by omega) (by omega)
theorem top8 : flt_format_top.f 8 11 52 = some 2047 := by
  unfold flt_format_top.f
  have h := shl1_i64 11 (by omega)
  rw [show ((11 : Nat) : Int) = 11 from rfl] at h
  rw [if_pos (by omega), h, show (((2 : Nat) ^ 11 : Nat) : Int) = 2048 from rfl, w64 (by omega) (by omega)]
  rfl
theorem bias8 : flt_format_bias.f 8 11 52 = some 1023 := by
  unfold flt_format_bias.f
  rw [top8, Option.bind_some, tdiv_ (by omega), w64 (by omega) (by omega)]
  rfl
theorem finite_eq (n : Nat) (hn : n < 18446744073709551616) : flt_Finite.f n = some (decide (n / 4503599627370496 % 2048 ≠ 2047)) := by
  unfold flt_Finite.f
  rw [show flt_wide.f = some (8, 11, 52) from rfl, Option.bind_some, parts8 n hn, Option.bind_some, Option.bind_some, top8, Option.bind_some]
  congr 1
  show (((n / 4503599627370496 % 2048 : Nat) : Int) != 2047) = _
  rw [Bool.eq_iff_iff, bne_iff_ne, decide_eq_true_iff]
  omega
def mant (n : Nat) : Nat := if n / 4503599627370496 % 2048 = 0 then n % 4503599627370496 else 4503599627370496 + n % 4503599627370496
def expo (n : Nat) : Int := (if n / 4503599627370496 % 2048 = 0 then 1 else ((n / 4503599627370496 % 2048 : Nat) : Int)) - 1075
theorem mant_lt (n : Nat) : mant n < 9007199254740992 := by unfold mant; split <;> omega
theorem V_lt {m b q : Nat} (hm : m < 9007199254740992) (hb : b ≤ 5) (hq : q ≤ 1074) : m * b ^ q < 10 ^ 800 := by
  have h1 := small_pow hb hq
  have h2 := Nat.mul_le_mul (show m ≤ 9007199254740992 by omega) h1
  have h3 : (9007199254740992 : Nat) * 5 ^ 1074 < 10 ^ 800 := by decide +kernel
  omega
theorem z_le {V m z : Nat} (hV : V < 10 ^ 800) (e : V = m * 10 ^ z) (hm : m % 10 ≠ 0) : z ≤ 800 := by
  rcases Nat.lt_or_ge 800 z with h | h
  · exfalso
    have h1 := ple 10 800 z (by omega) (by omega)
    have h2 : 1 * 10 ^ z ≤ m * 10 ^ z := Nat.mul_le_mul_right _ (by omega)
    omega
  · exact h
theorem exact_j2 (s m b q : Nat) (p e : Int) (hm0 : m ≠ 0) (hm : m < 9007199254740992) (hb : b ≤ 5) (hq : q ≤ 1074) (hp : mx p (wrap64 (-p)) = q) (he0 : -1100 ≤ e) (he1 : e ≤ 0)
    (mm z : Nat) (hV : m * b ^ q = mm * 10 ^ z) (hmm : mm % 10 ≠ 0) (k : Nat) (hk : 5000000 < k) :
    flt_Exact.j2 k s m p b e = some ((s : Int) == 1, bs (decN mm), e + z, 0) := by
  obtain ⟨k, rfl⟩ : ∃ r, k = r + 1 := ⟨k - 1, by omega⟩
  have hVlt := V_lt hm hb hq
  have hz := z_le hVlt hV hmm
  have hm8 : m < 10 ^ 800 := lt16 (by omega)
  have hp8 : b ^ q < 10 ^ 800 := lt760 (Nat.lt_of_le_of_lt (small_pow hb hq) five)
  have okm := okS_dec hm8
  have okp := okS_dec hp8
  have sm := decN_len m 800 hm8 (by omega)
  have sp := decN_len (b ^ q) 800 hp8 (by omega)
  have hmul := nat_Mul_eq (bs (decN m)) (bs (decN (b ^ q))) (by rw [bs_size]; omega) (by rw [bs_size]; omega) k (by omega)
  rw [okm, okp] at hmul
  have e1 : vA (bs (decN m)) = m := vA_dec m
  have e2 : vA (bs (decN (b ^ q))) = b ^ q := vA_dec _
  rw [e1, e2, show (if (true && true) = true then shortN (m * b ^ q) else ((⟨#[]⟩ : ByteArray), (1 : Int))) = shortN (m * b ^ q) from rfl, short_small hVlt (by omega) (by omega)] at hmul
  rw [flt_Exact.j2, if_neg (by omega), hp, power_eq b q hb hq k (by omega), Option.bind_some, word_eq m (by omega) k (by omega), Option.bind_some]
  rw [show (⟨(decN m).toArray⟩ : ByteArray) = bs (decN m) from rfl, show (⟨(decN (b ^ q)).toArray⟩ : ByteArray) = bs (decN (b ^ q)) from rfl, hmul, Option.bind_some, if_pos rfl]
  rw [show (⟨(decN (m * b ^ q)).toArray⟩ : ByteArray) = bs (decN (m * b ^ q)) from rfl, hV, dec_Make_eq _ hmm (hV ▸ hVlt) hz e he0 (by omega) k (by omega), Option.bind_some]
def tw (n : Nat) : Nat := min (Lib.ctz 64 (mant n)) (-(expo n)).toNat
def mw (n : Nat) : Nat := mant n / 2 ^ tw n
def pw (n : Nat) : Int := expo n + tw n
theorem expo_range (n : Nat) : -1074 ≤ expo n ∧ expo n ≤ 972 := by unfold expo; split <;> omega
theorem tw_spec (n : Nat) (hM : mant n ≠ 0) : mant n = mw n * 2 ^ tw n ∧ (mw n % 2 = 1 ∨ pw n = 0 ∨ (tw n = 0 ∧ 0 ≤ pw n)) ∧ (tw n = 0 ∨ pw n ≤ 0) ∧ tw n ≤ 63 := by
  have hml := mant_lt n
  obtain ⟨r, hr, hlt⟩ := Lib.ctzFrom_spec 64 (mant n) (by omega) (by omega)
  have hc : Lib.ctz 64 (mant n) = Lib.ctzFrom 64 (mant n) := by unfold Lib.ctz; rw [if_neg hM]
  have hle : tw n ≤ Lib.ctzFrom 64 (mant n) := by unfold tw; rw [hc]; exact Nat.min_le_left _ _
  have hle2 : tw n ≤ (-(expo n)).toNat := Nat.min_le_right _ _
  have hsplit : (2 : Nat) ^ Lib.ctzFrom 64 (mant n) = 2 ^ tw n * 2 ^ (Lib.ctzFrom 64 (mant n) - tw n) := by rw [← Nat.pow_add]; congr 1; omega
  have hpos : 0 < (2 : Nat) ^ tw n := Nat.pow_pos (by omega)
  have hmw : mw n = 2 ^ (Lib.ctzFrom 64 (mant n) - tw n) * (2 * r + 1) := by
    unfold mw
    conv => lhs; rw [hr]
    rw [hsplit, Nat.mul_assoc, Nat.mul_div_cancel_left _ hpos]
  refine ⟨?_, ?_, ?_, by omega⟩
  · rw [hmw, Nat.mul_comm, ← Nat.mul_assoc, ← hsplit]; exact hr
  · rcases Nat.lt_or_ge (tw n) (Lib.ctzFrom 64 (mant n)) with h | h
    · have h2 : tw n = (-(expo n)).toNat := by
        unfold tw at h ⊢
        rw [hc] at h ⊢
        omega
      unfold pw
      omega
    · left
      rw [hmw, show Lib.ctzFrom 64 (mant n) - tw n = 0 from by omega]
      omega
  · unfold pw
    omega
theorem exact_num (n : Nat) (hn : n < 18446744073709551616) (hx : n / 4503599627370496 % 2048 ≠ 2047) (hM : mant n ≠ 0)
    (mm z : Nat) (hV : mw n * (if pw n < 0 then 5 else 2) ^ (pw n).natAbs = mm * 10 ^ z) (hmm : mm % 10 ≠ 0) (k : Nat) (hk : 6000000 < k) :
    flt_Exact.f k n = some (((n / 9223372036854775808 : Nat) : Int) == 1, bs (decN mm), (if pw n < 0 then pw n else 0) + z, 0) := by
  obtain ⟨k, rfl⟩ : ∃ r, k = r + 1 + 1 := ⟨k - 2, by omega⟩
  have hml := mant_lt n
  obtain ⟨e0, e1⟩ := expo_range n
  obtain ⟨s1, s2, s3, s4⟩ := tw_spec n hM
  have hpos : 0 < (2 : Nat) ^ tw n := Nat.pow_pos (by omega)
  have hmle : mw n ≤ mant n := by rw [s1]; exact Nat.le_mul_of_pos_right _ hpos
  have hm0 : mw n ≠ 0 := by intro h; rw [h] at s1; simp at s1; exact hM s1
  have hpw : pw n = expo n + tw n := rfl
  have hj1 : ∀ s : Nat, flt_Exact.j1 (k + 1) s (mw n) (pw n) = some ((s : Int) == 1, bs (decN mm), (if pw n < 0 then pw n else 0) + z, 0) := by
    intro s
    rw [flt_Exact.j1]
    by_cases hp : pw n < 0
    · rw [if_pos hp] at hV
      rw [if_pos hp, if_pos hp]
      exact exact_j2 s (mw n) 5 (pw n).natAbs (pw n) (pw n) hm0 (by omega) (by omega) (by omega) (by rw [w64 (by omega) (by omega)]; unfold mx; split <;> omega) (by omega) (by omega) mm z hV hmm k (by omega)
    · rw [if_neg hp] at hV
      rw [if_neg hp, if_neg hp]
      have := exact_j2 s (mw n) 2 (pw n).natAbs (pw n) 0 hm0 (by omega) (by omega) (by omega) (by rw [w64 (by omega) (by omega)]; unfold mx; split <;> omega) (by omega) (by omega) mm z hV hmm k (by omega)
      exact this
  have hj0 : ∀ s x : Nat, x < 2048 → expo n = (if x = 0 then 1 else (x : Int)) - 1075 → flt_Exact.j0 (k + 1 + 1) s x (mant n) 8 11 52 = some ((s : Int) == 1, bs (decN mm), (if pw n < 0 then pw n else 0) + z, 0) := by
    intro s x hx2 hex
    have hmx : mx (x : Int) 1 = (if x = 0 then 1 else (x : Int)) := by unfold mx; split <;> split <;> omega
    have htz : bits_TrailingZeros64.f (mant n : Int) = some (Lib.ctz 64 (mant n) : Int) := by
      unfold bits_TrailingZeros64.f
      rw [if_pos (by omega), Int.toNat_natCast]
    have hmn : mn (Lib.ctz 64 (mant n) : Int) (mx (-(expo n)) 0) = (tw n : Int) := by
      unfold mn mx tw
      split <;> split <;> omega
    rw [flt_Exact.j0, bias8, Option.bind_some, if_neg (by omega), htz, Option.bind_some, hmx]
    rw [w64 (x := (if x = 0 then 1 else (x : Int)) - 1023) (by split <;> omega) (by split <;> omega), show (if x = 0 then 1 else (x : Int)) - 1023 - 52 = expo n from by rw [hex]; omega]
    rw [w64 (x := expo n) (by omega) (by omega), w64 (x := -(expo n)) (by omega) (by omega), hmn, if_pos (by omega), shr_nat (mant n) (tw n) (by omega), w64 (by omega) (by omega)]
    exact hj1 s
  unfold flt_Exact.f
  rw [finite_eq n hn, Option.bind_some, decide_eq_true hx, if_pos rfl, show flt_wide.f = some (8, 11, 52) from rfl, Option.bind_some, parts8 n hn, Option.bind_some]
  by_cases h0 : n / 4503599627370496 % 2048 = 0
  · have hm : mant n = n % 4503599627370496 := by unfold mant; rw [if_pos h0]
    rw [if_neg (by show ¬((((n / 4503599627370496 % 2048 : Nat)) : Int) > 0); omega)]
    rw [← hm]
    exact hj0 _ _ (by omega) (by unfold expo; simp only [if_pos h0])
  · have hm : mant n = 4503599627370496 + n % 4503599627370496 := by unfold mant; rw [if_neg h0]
    have hor : Go.bits .or .u64 ((n % 4503599627370496 : Nat) : Int) (shl .u64 1 52) = (mant n : Int) := by
      have h1 := shl_nat 1 52 (by omega) (by omega)
      have h2 := or_apart 1 (n % 4503599627370496) 52 (by omega) (by omega) (by omega)
      rw [bits_or_u64_nat _ _ (by omega) (by omega)] at h2
      rw [show shl .u64 1 52 = ((2 ^ 52 * 1 : Nat) : Int) from h1, bits_or_u64_nat _ _ (by omega) (by omega), Nat.or_comm, h2, hm]
    rw [if_pos (by show ((((n / 4503599627370496 % 2048 : Nat)) : Int) > 0); omega), if_pos (by show (0 : Int) ≤ 52; omega)]
    show flt_Exact.j0 (k + 1 + 1) _ _ (Go.bits .or .u64 ((n % 4503599627370496 : Nat) : Int) (shl .u64 1 52)) 8 11 52 = _
    rw [hor]
    exact hj0 _ _ (by omega) (by unfold expo; simp only [if_neg h0])
theorem exact_zero (n : Nat) (hn : n < 18446744073709551616) (hx : n / 4503599627370496 % 2048 ≠ 2047) (hM : mant n = 0) (k : Nat) (hk : 6000000 < k) :
    flt_Exact.f k n = some (false, ⟨#[48]⟩, 0, 0) := by
  obtain ⟨k, rfl⟩ : ∃ r, k = r + 1 + 1 + 1 := ⟨k - 3, by omega⟩
  have h0 : n / 4503599627370496 % 2048 = 0 := by unfold mant at hM; split at hM <;> omega
  have hf : n % 4503599627370496 = 0 := by unfold mant at hM; rw [if_pos h0] at hM; exact hM
  unfold flt_Exact.f
  rw [finite_eq n hn, Option.bind_some, decide_eq_true hx, if_pos rfl, show flt_wide.f = some (8, 11, 52) from rfl, Option.bind_some, parts8 n hn, Option.bind_some]
  rw [h0, hf]
  rw [if_neg (show ¬(((0 : Nat) : Int) > 0) by omega)]
  show flt_Exact.j0 (k + 1 + 1 + 1) _ 0 0 8 11 52 = _
  rw [flt_Exact.j0, bias8, Option.bind_some, if_pos rfl, flt_Exact.j1]
  split
  · rw [flt_Exact.j2, if_pos rfl]
  · rw [flt_Exact.j2, if_pos rfl]
theorem exact_far (n : Nat) (hn : n < 18446744073709551616) (hx : n / 4503599627370496 % 2048 = 2047) (k : Nat) : flt_Exact.f k n = some (false, ⟨#[]⟩, 0, 12) := by
  unfold flt_Exact.f
  rw [finite_eq n hn, Option.bind_some, if_neg (by simp [hx])]
end Go.Proofs.YtfndkpifgmcomaaDoor.Q
end
