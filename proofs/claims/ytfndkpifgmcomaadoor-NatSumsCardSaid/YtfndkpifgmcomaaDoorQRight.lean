/- What both Right functions compute, and both order functions. -/
import Derived.Test.YtfndkpifgmcomaaDoorX20
import Derived.Test.YtfndkpifgmcomaaDoorX9
import Derived.Test.YtfndkpifgmcomaaDoorQNum
namespace Go.Proofs.YtfndkpifgmcomaaDoor.Q
open Go.RowKit Go.Proofs.YtfndkpifgmcomaaDoor.XD Go.Proofs.YtfndkpifgmcomaaDoorW.PrintWords Go.Proofs.YtfndkpifgmcomaaDoorW.PrintLast Go.Proofs.YtfndkpifgmcomaaDoorW.PrintMore
open Go.Proofs.YtfndkpifgmcomaaDoor.QNum (isNum isNum_iff vN vN_append vN_lt vN_pos decN decN_vN)
set_option linter.unusedVariables false

theorem w64r {x : Int} (h0 : -9223372036854775808 ≤ x) (h1 : x ≤ 9223372036854775807) : wrap64 x = x := by unfold wrap64; omega
theorem szl (s : ByteArray) : s.size = s.data.toList.length := by rw [Array.length_toList]; rfl
theorem btl (s : ByteArray) (i : Nat) : bt s (i : Int) = ((s.data.toList.getD i 0).toNat : Int) := by
  unfold bt
  have e : ((i : Int)).toNat = i := by omega
  by_cases h : i < s.size
  · rw [dif_pos (by rw [e]; exact h)]
    rw [szl] at h
    rw [List.getD_eq_getElem?_getD, List.getElem?_eq_getElem h, Option.getD_some]
    simp only [e]
    rfl
  · rw [dif_neg (by rw [e]; exact h)]
    rw [szl] at h
    rw [List.getD_eq_getElem?_getD, List.getElem?_eq_none (by omega)]
    rfl
def digs : List UInt8 := [48, 49, 50, 51, 52, 53, 54, 55, 56, 57]
theorem digs_has (c : UInt8) : digs.contains c = QNum.isDig c := by
  rw [Bool.eq_iff_iff, QNum.isDig_iff]
  simp only [digs, List.contains_eq_mem, List.mem_cons, List.not_mem_nil, or_false, decide_eq_true_eq, ← UInt8.toNat_inj]
  simp only [show (48 : UInt8).toNat = 48 from rfl, show (49 : UInt8).toNat = 49 from rfl, show (50 : UInt8).toNat = 50 from rfl, show (51 : UInt8).toNat = 51 from rfl, show (52 : UInt8).toNat = 52 from rfl, show (53 : UInt8).toNat = 53 from rfl, show (54 : UInt8).toNat = 54 from rfl, show (55 : UInt8).toNat = 55 from rfl, show (56 : UInt8).toNat = 56 from rfl, show (57 : UInt8).toNat = 57 from rfl]
  omega
theorem dropWhile_all (p : UInt8 → Bool) : ∀ (l : List UInt8), (∀ c ∈ l.dropWhile p, p c = true) → ∀ c ∈ l, p c = true
  | [], _ => fun c hc => by cases hc
  | x :: l, h => by
    rw [List.dropWhile_cons] at h
    by_cases hx : p x = true
    · rw [if_pos hx] at h
      intro c hc
      rcases List.mem_cons.1 hc with rfl | hc
      · exact hx
      · exact dropWhile_all p l h c hc
    · rw [if_neg hx] at h
      exact h
theorem dropWhile_nil (p : UInt8 → Bool) : ∀ (l : List UInt8), l.dropWhile p = [] ↔ ∀ c ∈ l, p c = true
  | [] => by simp
  | x :: l => by
    rw [List.dropWhile_cons]
    by_cases hx : p x = true
    · rw [if_pos hx, dropWhile_nil p l]
      simp [hx]
    · rw [if_neg hx]
      simp [hx]
theorem trimS_nil (l cs : List UInt8) : Lib.trimS l cs = [] ↔ ∀ c ∈ l, cs.contains c = true := by
  unfold Lib.trimS Lib.trimLeftS Lib.trimRightS
  rw [dropWhile_nil]
  constructor
  · intro h c hc
    exact dropWhile_all (fun x => cs.contains x) l.reverse (fun c hc => h c (List.mem_reverse.2 hc)) c (List.mem_reverse.2 hc)
  · intro h c hc
    exact h c (List.mem_reverse.1 ((List.dropWhile_sublist _).subset (List.mem_reverse.1 hc)))
def okS (s : ByteArray) : Bool := isNum s.data.toList && decide (s.size ≤ 800)
theorem trim_f (s : ByteArray) (h : s.size ≤ 9223372036854775807) : strings_Trim.f s (⟨#[48, 49, 50, 51, 52, 53, 54, 55, 56, 57]⟩ : ByteArray) = some ⟨(Lib.trimS s.data.toList digs).toArray⟩ := by
  unfold strings_Trim.f
  rw [if_pos ⟨by decide, h⟩]
  rfl
theorem trim_nil (s : ByteArray) : ((⟨(Lib.trimS s.data.toList digs).toArray⟩ : ByteArray).toList == ([] : List UInt8)) = s.data.toList.all QNum.isDig := by
  rw [ByteArray.toList_eq, Bool.eq_iff_iff, beq_iff_eq, List.all_eq_true]
  show Lib.trimS s.data.toList digs = [] ↔ _
  rw [trimS_nil]
  constructor
  · intro h c hc; rw [← digs_has]; exact h c hc
  · intro h c hc; rw [digs_has]; exact h c hc
theorem nat_Right_eq (s : ByteArray) (h : s.size ≤ 140737488351232) : nat_Right.f s = some (okS s) := by
  unfold nat_Right.f okS
  rw [trim_f s (by omega), szl, ByteArray.toList_eq]
  simp only [Option.bind_some]
  rw [trim_nil]
  have hb := btl s 0
  have hsz := szl s
  cases hl : s.data.toList with
  | nil => simp [isNum]
  | cons c q =>
    rw [hl] at hb hsz
    rw [if_neg (by simp)]
    simp only [List.getD_cons_zero] at hb
    have hb : bt s 0 = (c.toNat : Int) := hb
    by_cases h8 : (c :: q).length ≤ 800
    · rw [if_neg (by omega), if_pos (by simp), hb, decide_eq_true h8, Bool.and_true]
      by_cases hc : c = 48
      · subst hc
        rw [if_pos (by rfl)]
        cases q with
        | nil => decide
        | cons d q => rw [if_neg (by simp)]; simp [isNum]
      · rw [if_neg (by
          intro e
          exact hc (UInt8.toNat_inj.1 (by simpa using (show c.toNat = 48 from by omega))))]
        simp [isNum, hc]
    · rw [if_pos (by omega), decide_eq_false h8, Bool.and_false]
theorem ref_Right_l0 (s : ByteArray) (h : s.size ≤ 140737488351232) : ∀ (d k i : Nat), s.size - i = d → i ≤ s.size → d < k → gantlineref05_Right.l0 k s i = some ((s.data.toList.drop i).all QNum.isDig) := by
  intro d
  induction d with
  | zero =>
    intro k i hd hi hk
    obtain ⟨k, rfl⟩ : ∃ q, k = q + 1 := ⟨k - 1, by omega⟩
    obtain rfl : i = s.size := by omega
    rw [gantlineref05_Right.l0, if_neg (by omega), szl, List.drop_length]
    rfl
  | succ d ih =>
    intro k i hd hi hk
    obtain ⟨k, rfl⟩ : ∃ q, k = q + 1 := ⟨k - 1, by omega⟩
    have hil : i < s.data.toList.length := by rw [← szl]; omega
    rw [gantlineref05_Right.l0, if_pos (by omega), if_pos (by omega), btl, w64r (by omega) (by omega), show (i : Int) + 1 = ((i + 1 : Nat) : Int) from rfl, ih k (i + 1) (by omega) (by omega) (by omega)]
    rw [List.drop_eq_getElem_cons hil, List.all_cons]
    have e : s.data.toList.getD i 0 = s.data.toList[i] := by rw [List.getD_eq_getElem?_getD, List.getElem?_eq_getElem hil]; rfl
    rw [e]
    generalize s.data.toList[i] = c
    have hc := QNum.isDig_iff c
    by_cases h1 : (c.toNat : Int) < 48
    · rw [if_pos h1]
      have : QNum.isDig c = false := by rw [Bool.eq_false_iff]; intro e; have := hc.1 e; omega
      rw [this]; rfl
    · rw [if_neg h1]
      by_cases h2 : (c.toNat : Int) > 57
      · rw [if_pos h2]
        have : QNum.isDig c = false := by rw [Bool.eq_false_iff]; intro e; have := hc.1 e; omega
        rw [this]; rfl
      · rw [if_neg h2, hc.2 (by omega), Bool.true_and]
theorem ref_Right_eq (s : ByteArray) (h : s.size ≤ 140737488351232) (k : Nat) (hk : 802 < k) : gantlineref05_Right.f k s = some (okS s) := by
  obtain ⟨k, rfl⟩ : ∃ q, k = q + 1 := ⟨k - 1, by omega⟩
  unfold gantlineref05_Right.f okS
  have hb := btl s 0
  have hsz := szl s
  have hl0 : s.size ≤ 800 → gantlineref05_Right.l0 k s 0 = some (s.data.toList.all QNum.isDig) := fun h8 => ref_Right_l0 s h s.size k 0 (by omega) (by omega) (by omega)
  cases hl : s.data.toList with
  | nil =>
    rw [hl] at hsz
    rw [if_pos (by rw [hsz]; rfl), gantlineref05_Right.j0, if_pos rfl]
    simp [isNum]
  | cons c q =>
    rw [hl] at hb hsz hl0
    have hsz2 : s.size = q.length + 1 := by rw [hsz]; rfl
    rw [if_neg (by omega)]
    simp only [List.getD_cons_zero] at hb
    have hb : bt s 0 = (c.toNat : Int) := hb
    by_cases h8 : s.size ≤ 800
    · rw [if_neg (by omega), if_pos (by omega), hb, decide_eq_true h8, Bool.and_true, gantlineref05_Right.j0, gantlineref05_Right.j0, hl0 h8]
      by_cases hc : c = 48
      · subst hc
        rw [if_pos (by rfl)]
        cases q with
        | nil => rw [hsz2]; decide
        | cons d q => rw [if_pos (by rw [hsz2]; simp; omega)]; simp [isNum]
      · rw [if_neg (by
          intro e
          exact hc (UInt8.toNat_inj.1 (by simpa using (show c.toNat = 48 from by omega))))]
        simp [isNum, hc]
    · rw [if_pos (by omega), decide_eq_false h8, Bool.and_false, gantlineref05_Right.j0, if_pos rfl]

/-! ### order -/
def ordS (a b : ByteArray) : Int := if a.size = b.size then Lib.compareBytes a.data.toList b.data.toList else if a.size < b.size then -1 else 1
theorem nat_order_eq (a b : ByteArray) : nat_order.f a b = some (ordS a b) := by
  unfold nat_order.f ordS
  split
  · rfl
  · split <;> rfl
theorem cmp_less : ∀ (a b : List UInt8), a.length = b.length → Lib.compareBytes a b = if Op.bytesLess a b = true then -1 else if a = b then 0 else 1
  | [], [], _ => by simp [Lib.compareBytes, Op.bytesLess]
  | [], _ :: _, h => by simp at h
  | _ :: _, [], h => by simp at h
  | x :: a, y :: b, h => by
    rw [Lib.compareBytes, cmp_less a b (by simpa using h)]
    by_cases h1 : x < y
    · simp [Op.bytesLess, h1]
    · by_cases h2 : y < x
      · have : x ≠ y := by intro e; subst e; exact UInt8.lt_irrefl _ h2
        simp [Op.bytesLess, h1, h2, this]
      · have : x = y := UInt8.le_antisymm (UInt8.not_lt.1 h2) (UInt8.not_lt.1 h1)
        subst this
        simp [Op.bytesLess, h1]
theorem ref_order_eq (a b : ByteArray) (k : Nat) (hk : 1 < k) : gantlineref05_order.f k a b = some (ordS a b) := by
  obtain ⟨k, rfl⟩ : ∃ q, k = q + 1 := ⟨k - 1, by omega⟩
  unfold gantlineref05_order.f ordS
  simp only [gantlineref05_order.j0, ByteArray.toList_eq]
  by_cases h1 : a.size < b.size
  · rw [if_pos (by omega), if_pos trivial, if_neg (by omega), if_pos h1]
  · rw [if_neg (by omega)]
    by_cases h2 : a.size = b.size
    · rw [if_pos (by omega), if_pos h2, cmp_less _ _ (by rw [← szl, ← szl, h2])]
      split
      · rfl
      · split <;> rfl
    · rw [if_neg (by omega), if_neg h2, if_neg h1]
      rw [if_neg (by decide), if_neg (by intro e; exact h2 (by rw [szl, szl, e]))]
/-- The order of equal long lists of digits is the order of the values. -/
theorem cmp_val : ∀ (a b : List UInt8), a.length = b.length → (∀ c ∈ a, QNum.isDig c = true) → (∀ c ∈ b, QNum.isDig c = true) →
    (Lib.compareBytes a b < 0 ↔ vN a < vN b)
  | [], [], _, _, _ => by simp [Lib.compareBytes]
  | [], _ :: _, h, _, _ => by simp at h
  | _ :: _, [], h, _, _ => by simp at h
  | x :: a, y :: b, h, ha, hb => by
    have hl : a.length = b.length := by simpa using h
    have ih := cmp_val a b hl (fun c hc => ha c (List.mem_cons_of_mem _ hc)) (fun c hc => hb c (List.mem_cons_of_mem _ hc))
    have hx := (QNum.isDig_iff x).1 (ha x List.mem_cons_self)
    have hy := (QNum.isDig_iff y).1 (hb y List.mem_cons_self)
    have e1 : vN (x :: a) = (x.toNat - 48) * 10 ^ b.length + vN a := by
      have := vN_append [x] b.length a hl
      rw [List.singleton_append] at this
      rw [this]; simp [vN]
    have e2 : vN (y :: b) = (y.toNat - 48) * 10 ^ b.length + vN b := by
      have := vN_append [y] b.length b rfl
      rw [List.singleton_append] at this
      rw [this]; simp [vN]
    have l1 := vN_lt b.length a hl (fun c hc => ha c (List.mem_cons_of_mem _ hc))
    have l2 := vN_lt b.length b rfl (fun c hc => hb c (List.mem_cons_of_mem _ hc))
    rw [e1, e2, Lib.compareBytes]
    generalize 10 ^ b.length = T at *
    by_cases h1 : x < y
    · rw [if_pos h1]
      have h1 : x.toNat < y.toNat := h1
      have : (x.toNat - 48 + 1) * T ≤ (y.toNat - 48) * T := Nat.mul_le_mul_right _ (by omega)
      rw [Nat.add_mul] at this
      constructor
      · intro _; omega
      · intro _; decide
    · rw [if_neg h1]
      by_cases h2 : y < x
      · rw [if_pos h2]
        have h2 : y.toNat < x.toNat := h2
        have : (y.toNat - 48 + 1) * T ≤ (x.toNat - 48) * T := Nat.mul_le_mul_right _ (by omega)
        rw [Nat.add_mul] at this
        constructor
        · intro h; exact absurd h (by decide)
        · intro _; omega
      · have : x = y := UInt8.le_antisymm (UInt8.not_lt.1 h2) (UInt8.not_lt.1 h1)
        subst this
        rw [if_neg h2, ih]
        omega
theorem ord_val (a b : ByteArray) (ha : isNum a.data.toList = true) (hb : isNum b.data.toList = true) :
    (ordS a b < 0 ↔ vN a.data.toList < vN b.data.toList) ∧ (ordS a b < 0 ∨ b.size ≤ a.size) := by
  obtain ⟨da, na, ta⟩ := (isNum_iff _).1 ha
  obtain ⟨db, nb, tb⟩ := (isNum_iff _).1 hb
  unfold ordS
  have ea := szl a
  have eb := szl b
  have hlong : ∀ (x y : List UInt8), (∀ c ∈ x, QNum.isDig c = true) → (∀ c ∈ y, QNum.isDig c = true) → x ≠ [] → y.length = 1 ∨ y.head? ≠ some 48 → x.length < y.length → vN x < vN y := by
    intro x y dx dy nx ty hlt
    have h1 := vN_lt x.length x rfl dx
    cases y with
    | nil => simp at hlt
    | cons c q =>
      have hxl : 0 < x.length := List.length_pos_iff.2 nx
      have hh : (c :: q).head? ≠ some 48 := by
        rcases ty with ty | ty
        · omega
        · exact ty
      have hc := (QNum.isDig_iff c).1 (dy c List.mem_cons_self)
      have hc48 : c.toNat ≠ 48 := by
        intro e
        apply hh
        simp
        exact UInt8.toNat_inj.1 (by simpa using e)
      have h2 := vN_append [c] q.length q rfl
      rw [List.singleton_append] at h2
      have h3 : vN [c] = c.toNat - 48 := by simp [vN]
      have h4 : 1 * 10 ^ q.length ≤ vN [c] * 10 ^ q.length := Nat.mul_le_mul_right _ (by omega)
      have h5 : (10 : Nat) ^ x.length ≤ 10 ^ q.length := Nat.pow_le_pow_right (by omega) (by simp at hlt; omega)
      omega
  by_cases h1 : a.size = b.size
  · rw [if_pos h1]
    exact ⟨cmp_val _ _ (by rw [← ea, ← eb, h1]) da db, .inr (by omega)⟩
  · rw [if_neg h1]
    by_cases h2 : a.size < b.size
    · rw [if_pos h2]
      refine ⟨⟨fun _ => hlong _ _ da db na tb (by rw [← ea, ← eb]; exact h2), fun _ => by decide⟩, .inl (by decide)⟩
    · rw [if_neg h2]
      have := hlong _ _ db da nb ta (by rw [← ea, ← eb]; omega)
      exact ⟨⟨fun h => absurd h (by decide), fun h => by omega⟩, .inr (by omega)⟩
end Go.Proofs.YtfndkpifgmcomaaDoor.Q
