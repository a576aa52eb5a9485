/- Part of this claim: QRight, QText, QRef, QNat, QSums, QPow, QMake, QExact, QWide. -/
import Derived.Lib.BitFns
import Derived.Test.YtfndkpifgmcomaaDoorGbXM2
import Derived.Test.YtfndkpifgmcomaaDoorGbXM1
import Derived.Test.YtfndkpifgmcomaaDoorGbQM1
import Derived.Test.YtfndkpifgmcomaaDoorGbQM2
import Derived.Test.YtfndkpifgmcomaaDoorGbXM3
section
namespace Go.Proofs.YtfndkpifgmcomaaDoor.Q
open Go.RowKit Go.Proofs.YtfndkpifgmcomaaDoor.XD Go.Proofs.YtfndkpifgmcomaaDoorW.PrintWords Go.Proofs.YtfndkpifgmcomaaDoorW.PrintLast Go.Proofs.YtfndkpifgmcomaaDoorW.PrintMore
open Go.Proofs.YtfndkpifgmcomaaDoor.QNum (isNum isNum_iff vN vN_append vN_lt vN_pos decN decN_vN)
set_option linter.unusedVariables false
theorem szl (s : ByteArray) : s.size = s.data.toList.length := by rw [Array.length_toList]; rfl
theorem btl (s : ByteArray) (i : Nat) : bt s (i : Int) = ((s.data.toList.getD i 0).toNat : Int) := by
  unfold bt
  have e : ((i : Int)).toNat = i := by omega
  by_cases h : i < s.size
  · rw [dif_pos (by rw [e]; exact h)]
    rw [szl] at h
    rw [List.getD_eq_getElem?_getD, List.getElem?_eq_getElem h, Option.getD_some]
    simp only [e]
    rfl
  · rw [dif_neg (by rw [e]; exact h)]
    rw [szl] at h
    rw [List.getD_eq_getElem?_getD, List.getElem?_eq_none (by omega)]
    rfl
def digs : List UInt8 := [48, 49, 50, 51, 52, 53, 54, 55, 56, 57]
theorem digs_has (c : UInt8) : digs.contains c = QNum.isDig c := by
  rw [Bool.eq_iff_iff, QNum.isDig_iff]
  simp only [digs, List.contains_eq_mem, List.mem_cons, List.not_mem_nil, or_false, decide_eq_true_eq, ← UInt8.toNat_inj]
  simp only [show (48 : UInt8).toNat = 48 from rfl, show (49 : UInt8).toNat = 49 from rfl, show (50 : UInt8).toNat = 50 from rfl, show (51 : UInt8).toNat = 51 from rfl, show (52 : UInt8).toNat = 52 from rfl, show (53 : UInt8).toNat = 53 from rfl, show (54 : UInt8).toNat = 54 from rfl, show (55 : UInt8).toNat = 55 from rfl, show (56 : UInt8).toNat = 56 from rfl, show (57 : UInt8).toNat = 57 from rfl]
  omega
theorem dropWhile_all (p : UInt8 → Bool) : ∀ (l : List UInt8), (∀ c ∈ l.dropWhile p, p c = true) → ∀ c ∈ l, p c = true
  | [], _ => fun c hc => by cases hc
  | x :: l, h => by
    rw [List.dropWhile_cons] at h
    by_cases hx : p x = true
    · rw [if_pos hx] at h
      intro c hc
      rcases List.mem_cons.1 hc with rfl | hc
      · exact hx
      · exact dropWhile_all p l h c hc
    · rw [if_neg hx] at h
      exact h
theorem dropWhile_nil (p : UInt8 → Bool) : ∀ (l : List UInt8), l.dropWhile p = [] ↔ ∀ c ∈ l, p c = true
  | [] => by simp
  | x :: l => by
    rw [List.dropWhile_cons]
    by_cases hx : p x = true
    · rw [if_pos hx, dropWhile_nil p l]
      simp [hx]
    · rw [if_neg hx]
      simp [hx]
theorem trimS_nil (l cs : List UInt8) : Lib.trimS l cs = [] ↔ ∀ c ∈ l, cs.contains c = true := by
  unfold Lib.trimS Lib.trimLeftS Lib.trimRightS
  rw [dropWhile_nil]
  constructor
  · intro h c hc
    exact dropWhile_all (fun x => cs.contains x) l.reverse (fun c hc => h c (List.mem_reverse.2 hc)) c (List.mem_reverse.2 hc)
  · intro h c hc
    exact h c (List.mem_reverse.1 ((List.dropWhile_sublist _).subset (List.mem_reverse.1 hc)))
def okS (s : ByteArray) : Bool := isNum s.data.toList && decide (s.size ≤ 800)
theorem trim_f (s : ByteArray) (h : s.size ≤ 9223372036854775807) : strings_Trim.f s (⟨#[48, 49, 50, 51, 52, 53, 54, 55, 56, 57]⟩ : ByteArray) = some ⟨(Lib.trimS s.data.toList digs).toArray⟩ := by
  unfold strings_Trim.f
  rw [if_pos ⟨by decide, h⟩]
  rfl
theorem trim_nil (s : ByteArray) : ((⟨(Lib.trimS s.data.toList digs).toArray⟩ : ByteArray).toList == ([] : List UInt8)) = s.data.toList.all QNum.isDig := by
  rw [ByteArray.toList_eq, Bool.eq_iff_iff, beq_iff_eq, List.all_eq_true]
  show Lib.trimS s.data.toList digs = [] ↔ _
  rw [trimS_nil]
  constructor
  · intro h c hc; rw [← digs_has]; exact h c hc
  · intro h c hc; rw [digs_has]; exact h c hc
theorem nat_Right_eq (s : ByteArray) (h : s.size ≤ 140737488351232) : nat_Right.f s = some (okS s) := by
  unfold nat_Right.f okS
  rw [trim_f s (by omega), szl, ByteArray.toList_eq]
  simp only [Option.bind_some]
  rw [trim_nil]
  have hb := btl s 0
  have hsz := szl s
  cases hl : s.data.toList with
  | nil => simp [isNum]
  | cons c q =>
    rw [hl] at hb hsz
    rw [if_neg (by simp)]
    simp only [List.getD_cons_zero] at hb
    have hb : bt s 0 = (c.toNat : Int) := hb
    by_cases h8 : (c :: q).length ≤ 800
    · rw [if_neg (by omega), if_pos (by simp), hb, decide_eq_true h8, Bool.and_true]
      by_cases hc : c = 48
      · subst hc
        rw [if_pos (by rfl)]
        cases q with
        | nil => decide
        | cons d q => rw [if_neg (by simp)]; simp [isNum]
      · rw [if_neg (by
          intro e
          exact hc (UInt8.toNat_inj.1 (by simpa using (show c.toNat = 48 from by omega))))]
        simp [isNum, hc]
    · rw [if_pos (by omega), decide_eq_false h8, Bool.and_false]
end Go.Proofs.YtfndkpifgmcomaaDoor.Q
end
section
namespace Go.Proofs.YtfndkpifgmcomaaDoor.Q
open Go.RowKit Go.Proofs.YtfndkpifgmcomaaDoor.XD Go.Proofs.YtfndkpifgmcomaaDoorW.PrintWords Go.Proofs.YtfndkpifgmcomaaDoorW.PrintLast Go.Proofs.YtfndkpifgmcomaaDoorW.PrintMore
open Go.Proofs.YtfndkpifgmcomaaDoor.QNum (bv bv_append bv_nonneg isNum isNum_iff vN vN_snoc decN num_eq decN_lt)
set_option linter.unusedVariables false
def u8 (n : Int) : UInt8 := UInt8.ofNat n.toNat
def shortN (v : Nat) : ByteArray × Int := if 800 < (decN v).length then (⟨#[]⟩, 11) else (⟨(decN v).toArray⟩, 0)
end Go.Proofs.YtfndkpifgmcomaaDoor.Q
end
section
namespace Go.Proofs.YtfndkpifgmcomaaDoor.Q
open Go.RowKit Go.Proofs.YtfndkpifgmcomaaDoor.XD Go.Proofs.YtfndkpifgmcomaaDoorW.PrintWords Go.Proofs.YtfndkpifgmcomaaDoorW.PrintLast Go.Proofs.YtfndkpifgmcomaaDoorW.PrintMore
open Go.Proofs.YtfndkpifgmcomaaDoor.QNum (bv bv_append bv_set bv_nonneg bv_replicate isNum isNum_iff vN decN)
set_option linter.unusedVariables false
structure Fit (a b : ByteArray) : Prop where
  na : isNum a.data.toList = true
  nb : isNum b.data.toList = true
  sa : a.size ≤ 800
  sb : b.size ≤ 800
theorem Fit.da {a b : ByteArray} (h : Fit a b) : ∀ c ∈ a.data.toList, QNum.isDig c = true := ((isNum_iff _).1 h.na).1
def vA (a : ByteArray) : Nat := vN a.data.toList
end Go.Proofs.YtfndkpifgmcomaaDoor.Q
end
section
namespace Go.Proofs.YtfndkpifgmcomaaDoor.Q
open Go.RowKit Go.Proofs.YtfndkpifgmcomaaDoor.XD Go.Proofs.YtfndkpifgmcomaaDoorW.PrintWords Go.Proofs.YtfndkpifgmcomaaDoorW.PrintLast Go.Proofs.YtfndkpifgmcomaaDoorW.PrintMore
open Go.Proofs.YtfndkpifgmcomaaDoor.QNum (bv bv_append bv_set bv_nonneg bv_replicate isNum isNum_iff vN decN)
set_option linter.unusedVariables false
theorem short_eq (l : List Int) (hn : l.length ≤ 100000) (hs : ∀ y ∈ l, 0 ≤ y ∧ y ≤ 9223372036854775807) (k : Nat) (hk : 300000 < k) :
    nat_number_short.f k l = some (shortN (bv BB l).toNat) := by
  obtain ⟨ys, e1, e2, e3, e4⟩ := carry_eq l (by omega) hs k (by omega)
  unfold nat_number_short.f
  rw [e1, Option.bind_some, digits_eq ys e3 (by omega), Option.bind_some, e2, szl]
  show (if (((decN (bv BB l).toNat).length : Nat) : Int) > 800 then _ else _) = _
  unfold shortN
  by_cases h : 800 < (decN (bv BB l).toNat).length
  · rw [if_pos (by omega), if_pos h]
  · rw [if_neg (by omega), if_neg h]
theorem all_same (s : ByteArray) (h : ∀ c ∈ s.data.toList, QNum.isDig c = true) : s.data.toList.all XD.isDig = true := by
  rw [List.all_eq_true]
  exact fun c hc => h c hc
theorem nread {a b : ByteArray} (h : Fit a b) : ∃ xs, nat_read.f a = some xs ∧ bv BB xs = (vA a : Int) ∧ Lim xs ∧ xs.length ≤ 100 := by
  have sa := h.sa
  obtain ⟨xs, e1, e2, e3, e4⟩ := read_eq a (all_same a h.da) (by omega)
  exact ⟨xs, e1, e2, e3, by omega⟩
theorem Fit.symm {a b : ByteArray} (h : Fit a b) : Fit b a := ⟨h.nb, h.na, h.sb, h.sa⟩
theorem both_j0 (a b : ByteArray) (k : Nat) (hk : 0 < k) {xs ys : List Int} (h1 : nat_read.f a = some xs) (h2 : nat_read.f b = some ys) : nat_both.j0 k a b false = some (xs, ys, true) := by
  obtain ⟨k, rfl⟩ : ∃ q, k = q + 1 := ⟨k - 1, by omega⟩
  rw [nat_both.j0, if_neg (by simp), h1, Option.bind_some, h2, Option.bind_some]
theorem okS_fit {a b : ByteArray} (ha : okS a = true) (hb : okS b = true) : Fit a b := by
  unfold okS at ha hb
  rw [Bool.and_eq_true, decide_eq_true_eq] at ha hb
  exact ⟨ha.1, hb.1, ha.2, hb.2⟩
theorem both_eq (a b : ByteArray) (ha : a.size ≤ 140737488351232) (hb : b.size ≤ 140737488351232) (k : Nat) (hk : 0 < k) :
    (Fit a b → ∃ xs ys, nat_both.f k a b = some (xs, ys, true) ∧ bv BB xs = (vA a : Int) ∧ bv BB ys = (vA b : Int) ∧ Lim xs ∧ Lim ys ∧ xs.length ≤ 100 ∧ ys.length ≤ 100) ∧
    ((okS a && okS b) = false → nat_both.f k a b = some ([], [], false)) := by
  have hj : nat_both.j0 k a b true = some ([], [], false) := by
    obtain ⟨k, rfl⟩ : ∃ q, k = q + 1 := ⟨k - 1, by omega⟩
    rw [nat_both.j0, if_pos rfl]
  unfold nat_both.f
  rw [nat_Right_eq a ha, nat_Right_eq b hb, Option.bind_some, Option.bind_some]
  constructor
  · intro h
    obtain ⟨xs, e1, e2, e3, e4⟩ := nread h
    obtain ⟨ys, f1, f2, f3, f4⟩ := nread h.symm
    have oa : okS a = true := by unfold okS; rw [h.na, decide_eq_true h.sa]; rfl
    have ob : okS b = true := by unfold okS; rw [h.nb, decide_eq_true h.sb]; rfl
    refine ⟨xs, ys, ?_, e2, f2, e3, f3, e4, f4⟩
    rw [oa, ob, if_pos rfl]
    exact both_j0 a b k hk e1 f1
  · intro h
    cases h1 : okS a
    · rw [if_neg (by simp)]; exact hj
    · rw [h1, Bool.true_and] at h
      rw [if_pos rfl, h]; exact hj
theorem nat_Mul_eq (a b : ByteArray) (ha : a.size ≤ 140737488351232) (hb : b.size ≤ 140737488351232) (k : Nat) (hk : 3000000 < k) :
    nat_Mul.f k a b = some (if okS a && okS b then shortN (vA a * vA b) else (⟨#[]⟩, 1)) := by
  obtain ⟨h1, h2⟩ := both_eq a b ha hb k (by omega)
  unfold nat_Mul.f
  cases h : (okS a && okS b)
  · rw [h2 h]; rfl
  · rw [Bool.and_eq_true] at h
    obtain ⟨xs, ys, e1, e2, e3, e4, e5, e6, e7⟩ := h1 (okS_fit h.1 h.2)
    obtain ⟨r, f1, f2, f3, f4⟩ := times_eq xs ys e4 e5 (by omega) k (by omega)
    rw [e1, Option.bind_some]
    simp only [if_true]
    rw [f1, Option.bind_some, short_eq r (by omega) (fun y hy => by have := f2.small y hy; omega) k (by omega), Option.bind_some, f3, e2, e3, ← Int.natCast_mul, Int.toNat_natCast]
end Go.Proofs.YtfndkpifgmcomaaDoor.Q
end
section
namespace Go.Proofs.YtfndkpifgmcomaaDoor.Q
open Go.RowKit Go.Proofs.YtfndkpifgmcomaaDoor.XD Go.Proofs.YtfndkpifgmcomaaDoorW.PrintWords Go.Proofs.YtfndkpifgmcomaaDoorW.PrintLast Go.Proofs.YtfndkpifgmcomaaDoorW.PrintMore
open Go.Proofs.YtfndkpifgmcomaaDoor.QNum (bv bv_append bv_set bv_nonneg bv_replicate isNum isNum_iff vN decN num_eq decN_len vN_lt)
set_option linter.unusedVariables false
theorem short_small {v k : Nat} (h : v < 10 ^ k) (h0 : 0 < k) (h1 : k ≤ 800) : shortN v = (⟨(decN v).toArray⟩, 0) := by
  unfold shortN
  have := decN_len v k h h0
  rw [if_neg (by omega)]
end Go.Proofs.YtfndkpifgmcomaaDoor.Q
end
section
namespace Go.Proofs.YtfndkpifgmcomaaDoor.Q
open Go.RowKit Go.Proofs.YtfndkpifgmcomaaDoor.XD Go.Proofs.YtfndkpifgmcomaaDoorW.PrintWords Go.Proofs.YtfndkpifgmcomaaDoorW.PrintLast Go.Proofs.YtfndkpifgmcomaaDoorW.PrintMore
open Go.Proofs.YtfndkpifgmcomaaDoor.QNum (bv bv_append bv_set bv_nonneg bv_replicate isNum isNum_iff vN decN num_eq decN_len vN_lt decN_isNum vN_decN decN_lt decN_ge decN_ne)
set_option linter.unusedVariables false
theorem canon_len {ys : List Int} (h : Canon ys) {n : Nat} (hv : bv BB ys < BB ^ n) : ys.length ≤ n := by
  rcases Nat.lt_or_ge n ys.length with hl | hl
  · exfalso
    have hne : ys ≠ [] := by intro e; simp [e] at hl
    obtain ⟨q, c, rfl⟩ : ∃ q c, ys = q ++ [c] := ⟨ys.dropLast, ys.getLast hne, (List.dropLast_concat_getLast hne).symm⟩
    have hc := h.top q c rfl
    have hc2 := h.small c (by simp)
    have hq := bv_nonneg BB (by unfold BB; omega) q (fun y hy => (h.small y (List.mem_append_left _ hy)).1)
    rw [bv_append] at hv
    simp only [bv, Int.mul_zero, Int.add_zero] at hv
    have hp : BB ^ n ≤ BB ^ q.length := by
      have e : q.length = n + (q.length - n) := by simp at hl; omega
      rw [e, Int.pow_add]
      have h1 := BBpow_pos n
      have h2 := BBpow_pos (q.length - n)
      have := Int.mul_le_mul_of_nonneg_left (show 1 ≤ BB ^ (q.length - n) from by omega) (Int.le_of_lt h1)
      omega
    have h3 : BB ^ q.length * 1 ≤ BB ^ q.length * c := Int.mul_le_mul_of_nonneg_left (by omega) (Int.le_of_lt (BBpow_pos _))
    omega
  · exact hl
theorem ple (b m k : Nat) (hb : 0 < b) (h : m ≤ k) : b ^ m ≤ b ^ k := Nat.pow_le_pow_right hb h
theorem small_pow {b e : Nat} (hb : b ≤ 5) (he : e ≤ 1074) : b ^ e ≤ 5 ^ 1074 := by
  have h1 := Nat.pow_le_pow_left hb e
  have h2 := ple 5 e 1074 (by decide) he
  exact Nat.le_trans h1 h2
theorem lt16 {m : Nat} (h : m < 10 ^ 16) : m < 10 ^ 800 := by
  have h2 := ple 10 16 800 (by decide) (by decide)
  exact Nat.lt_of_lt_of_le h h2
theorem lt760 {m : Nat} (h : m < 10 ^ 760) : m < 10 ^ 800 := by
  have h2 := ple 10 760 800 (by decide) (by decide)
  exact Nat.lt_of_lt_of_le h h2
theorem five : (5 : Nat) ^ 1074 < 10 ^ 760 := by decide +kernel
theorem ten_BB : (10 : Nat) ^ 760 < 1000000000 ^ 89 := by decide +kernel
theorem pow_len {ys : List Int} (h : Canon ys) {v : Nat} (hv : bv BB ys = (v : Int)) (hs : v ≤ 5 ^ 1074) : ys.length ≤ 89 := by
  refine canon_len h ?_
  rw [hv]
  have h1 : v < 1000000000 ^ 89 := Nat.lt_of_le_of_lt hs (Nat.lt_trans five ten_BB)
  have h2 : ((1000000000 ^ 89 : Nat) : Int) = BB ^ 89 := by rw [Int.natCast_pow]; rfl
  rw [← h2]
  exact Int.ofNat_lt.2 h1
theorem pow_l0 (b e : Nat) (hb : b ≤ 5) (he : e ≤ 1074) : ∀ (d k i : Nat) (x : List Int), i + d = e → Canon x → bv BB x = ((b ^ i : Nat) : Int) → d + 3000000 < k →
    nat_Power.l0 k x [(b : Int)] e i = some (shortN (b ^ e)) := by
  intro d
  induction d with
  | zero =>
    intro k i x hi hc hv hk
    obtain ⟨k, rfl⟩ : ∃ q, k = q + 1 := ⟨k - 1, by omega⟩
    obtain rfl : i = e := by omega
    have hl := pow_len hc hv (small_pow hb he)
    rw [nat_Power.l0, if_neg (by omega), short_eq x (by omega) (fun y hy => by have := hc.small y hy; omega) k (by omega), Option.bind_some, hv, Int.toNat_natCast]
  | succ d ih =>
    intro k i x hi hc hv hk
    obtain ⟨k, rfl⟩ : ∃ q, k = q + 1 := ⟨k - 1, by omega⟩
    have hl := pow_len hc hv (small_pow hb (by omega))
    obtain ⟨r, e1, e2, e3, e4⟩ := times_eq x [(b : Int)] hc.small (fun y hy => by
      have hy : y = (b : Int) := by simpa using hy
      omega) (by simp; omega) k (by omega)
    have hv2 : bv BB r = ((b ^ (i + 1) : Nat) : Int) := by rw [e3, hv]; simp only [bv, Int.mul_zero, Int.add_zero]; rw [← Int.natCast_mul, Nat.pow_succ]
    have hl2 := pow_len e2 hv2 (small_pow hb (by omega))
    rw [nat_Power.l0, if_pos (by omega), e1, Option.bind_some, if_neg (by omega), w64 (by omega) (by omega)]
    exact ih k (i + 1) r (by omega) e2 hv2 (by omega)
theorem power_eq (b e : Nat) (hb : b ≤ 5) (he : e ≤ 1074) (k : Nat) (hk : 4000000 < k) : nat_Power.f k b e = some (⟨(decN (b ^ e)).toArray⟩, 0) := by
  obtain ⟨k, rfl⟩ : ∃ q, k = q + 1 := ⟨k - 1, by omega⟩
  have hd : decide ((e : Int) > 4000) = false := by rw [decide_eq_false_iff_not]; omega
  unfold nat_Power.f
  rw [if_neg (by omega), if_neg (by omega), if_neg (by omega), hd, nat_Power.j0, if_neg (by simp), wu (by omega) (by omega)]
  have := pow_l0 b e hb he e k 0 [1] (by omega) ⟨fun y hy => by
    have hy : y = 1 := by simpa using hy
    omega, fun q c h => by
    have hc := (List.append_inj_right' (show [] ++ [(1 : Int)] = q ++ [c] from h) rfl)
    simp at hc
    omega⟩ (by simp [bv]) (by omega)
  rw [show ((0 : Nat) : Int) = 0 from rfl] at this
  rw [this, short_small (Nat.lt_of_le_of_lt (small_pow hb he) five) (by omega) (by omega)]
theorem word_eq (n : Nat) (h : n < 18446744073709551616) (k : Nat) (hk : 50 < k) : nat_FromWord.f k n = some ⟨(decN n).toArray⟩ := by
  rw [fromWord_eq n h k hk, dec10_decN n (by omega)]
theorem vA_dec (u : Nat) : vA ⟨(decN u).toArray⟩ = u := vN_decN u
end Go.Proofs.YtfndkpifgmcomaaDoor.Q
end
section
namespace Go.Proofs.YtfndkpifgmcomaaDoor.Q
open Go.RowKit Go.Proofs.YtfndkpifgmcomaaDoor.XD Go.Proofs.YtfndkpifgmcomaaDoorW.PrintWords Go.Proofs.YtfndkpifgmcomaaDoorW.PrintLast Go.Proofs.YtfndkpifgmcomaaDoorW.PrintMore
open Go.Proofs.YtfndkpifgmcomaaDoor.QNum (isNum isNum_iff vN decN decN_len decN_isNum vN_decN decN_lt decN_ge decN_ne decN_head ofNat_toNat)
set_option linter.unusedVariables false
theorem decN_zeros (m : Nat) (hm : m ≠ 0) : ∀ z, decN (m * 10 ^ z) = decN m ++ List.replicate z 48
  | 0 => by simp
  | z + 1 => by
    have h1 : 1 ≤ m * 10 ^ z := Nat.mul_pos (by omega) (Nat.pow_pos (by omega))
    rw [Nat.pow_succ, ← Nat.mul_assoc, decN_ge (by omega), show m * 10 ^ z * 10 / 10 = m * 10 ^ z from by omega, show m * 10 ^ z * 10 % 10 = 0 from by omega, decN_zeros m hm z, List.replicate_succ', ← List.append_assoc]
    rfl
theorem last_dig {m : Nat} (hm : m % 10 ≠ 0) : ∃ q c, decN m = q ++ [c] ∧ c ≠ 48 := by
  have hc : UInt8.ofNat (48 + m % 10) ≠ 48 := by
    intro e
    have := ofNat_toNat (m % 10) (by omega)
    rw [e] at this
    have h48 : (48 : UInt8).toNat = 48 := rfl
    omega
  by_cases h : m < 10
  · exact ⟨[], UInt8.ofNat (48 + m % 10), by rw [decN_lt h, show m % 10 = m from by omega]; rfl, hc⟩
  · exact ⟨decN (m / 10), _, decN_ge h, hc⟩
theorem has48 (c : UInt8) : ([48] : List UInt8).contains c = (c == 48) := by
  simp only [List.contains, List.elem]
  cases (c == 48) <;> rfl
theorem trimR {m z : Nat} (hm : m % 10 ≠ 0) : Lib.trimRightS (decN m ++ List.replicate z 48) [48] = decN m := by
  obtain ⟨q, c, e, hc⟩ := last_dig hm
  have := Lib.trimRightS_take (decN m ++ List.replicate z 48) [48] (decN m).length (by simp) (fun j b hj hb => by
    rw [List.getElem?_append_right hj] at hb
    have := List.mem_of_getElem? hb
    rw [has48, List.eq_of_mem_replicate this]
    rfl) (fun b h0 hb => by
    rw [List.getElem?_append_left (by omega), e] at hb
    simp at hb
    rw [has48, ← hb]
    simpa using hc)
  rw [this, List.take_left]
theorem trimL {m : Nat} (hm : m ≠ 0) : Lib.trimLeftS (decN m) [48] = decN m := by
  have := Lib.trimLeftS_drop (decN m) [48] 0 (by omega) (fun j b hj => by omega) (fun b hb => by
    rw [has48]
    have h := decN_head m hm
    rw [List.head?_eq_getElem?, hb] at h
    simpa using h)
  rw [this, List.drop_zero]
theorem ne48 {m : Nat} (hm : m ≠ 0) : decN m ≠ [48] := by
  intro e
  have := vN_decN m
  rw [e] at this
  have h0 : vN [48] = 0 := by decide
  omega
def bs (l : List UInt8) : ByteArray := ⟨l.toArray⟩
theorem bs_list (l : List UInt8) : (bs l).toList = l := by rw [ByteArray.toList_eq]; rfl
theorem bs_data (l : List UInt8) : (bs l).data.toList = l := rfl
theorem bs_size (l : List UInt8) : (bs l).size = l.length := rfl
theorem okS_dec {m : Nat} (h : m < 10 ^ 800) : okS (bs (decN m)) = true := by
  unfold okS
  rw [bs_data, decN_isNum, bs_size, decide_eq_true (decN_len m 800 h (by omega))]
  rfl
theorem suffix_eq {m : Nat} (hm : m % 10 ≠ 0) (h : m < 10 ^ 800) : strings_HasSuffix.f (bs (decN m)) (⟨#[48]⟩ : ByteArray) = some false := by
  obtain ⟨q, c, e, hc⟩ := last_dig hm
  have hl := decN_len m 800 h (by omega)
  have hp : 0 < (decN m).length := List.length_pos_iff.2 (decN_ne m)
  have h1 : (⟨#[48]⟩ : ByteArray).size = 1 := rfl
  unfold strings_HasSuffix.f stringslite_HasSuffix.f
  rw [bs_size, h1, if_pos (by omega), w64 (by omega) (by omega), if_pos (by omega), if_pos (by omega), Option.bind_some]
  rw [ByteArray.toList_eq, ByteArray.toList_eq]
  have e2 : (((decN m).length : Int) - ((1 : Nat) : Int)).toNat = (decN m).length - 1 := by omega
  rw [e2, e]
  have e3 : ((bs (q ++ [c])).extract ((q ++ [c]).length - 1) (q ++ [c]).length).data.toList = [c] := by
    rw [ByteArray.data_extract]
    simp [bs]
  rw [e3]
  have : (([c] : List UInt8) == [48]) = false := by
    rw [beq_eq_false_iff_ne]
    intro h
    exact hc (by simpa using h)
  rw [this]
theorem dec_Right_eq (neg : Bool) {m : Nat} (hm : m % 10 ≠ 0) (h : m < 10 ^ 800) (e : Int) (h0 : -2000 ≤ e) (h1 : e ≤ 2000) : dec_Right.f neg (bs (decN m)) e = some true := by
  have hl := decN_len m 800 h (by omega)
  unfold dec_Right.f
  rw [nat_Right_eq _ (by rw [bs_size]; omega), okS_dec h, Option.bind_some, if_pos rfl, bs_list, if_neg (ne48 (by omega)), suffix_eq hm h, Option.bind_some, if_neg (by simp), if_pos (by omega), decide_eq_true (by omega)]
theorem dec_Make_eq (neg : Bool) {m z : Nat} (hm : m % 10 ≠ 0) (h : m * 10 ^ z < 10 ^ 800) (hz : z ≤ 800) (e : Int) (h0 : -1100 ≤ e) (h1 : e ≤ 1000) (k : Nat) (hk : 1 < k) :
    dec_Make.f k neg (bs (decN (m * 10 ^ z))) e = some (neg, bs (decN m), e + z, 0) := by
  obtain ⟨k, rfl⟩ : ∃ q, k = q + 1 := ⟨k - 1, by omega⟩
  have hl := decN_len _ 800 h (by omega)
  have hmm : m < 10 ^ 800 := Nat.lt_of_le_of_lt (Nat.le_mul_of_pos_right _ (Nat.pow_pos (by omega))) h
  have hml := decN_len _ 800 hmm (by omega)
  have hlen : (decN (m * 10 ^ z)).length = (decN m).length + z := by rw [decN_zeros m (by omega)]; simp
  have ht := trim_nil (bs (decN (m * 10 ^ z)))
  have hall : (bs (decN (m * 10 ^ z))).data.toList.all QNum.isDig = true := by
    rw [List.all_eq_true]
    exact ((isNum_iff _).1 (decN_isNum _)).1
  rw [hall] at ht
  unfold dec_Make.f
  rw [bs_list, if_neg (decN_ne _), bs_size, if_neg (by omega), trim_f _ (by rw [bs_size]; omega), Option.bind_some]
  have hb : (((⟨(Lib.trimS (bs (decN (m * 10 ^ z))).data.toList digs).toArray⟩ : ByteArray).toList != ([] : List UInt8))) = false := by
    rw [bne, ht]; rfl
  rw [hb, dec_Make.j0, if_neg (by simp)]
  have hR : strings_TrimRight.f (bs (decN (m * 10 ^ z))) (⟨#[48]⟩ : ByteArray) = some (bs (decN m)) := by
    unfold strings_TrimRight.f
    rw [if_pos ⟨by decide, by rw [bs_size]; omega⟩, bs_data, decN_zeros m (by omega)]
    show some (⟨(Lib.trimRightS (decN m ++ List.replicate z 48) [48]).toArray⟩ : ByteArray) = _
    rw [trimR hm]; rfl
  have hL : strings_TrimLeft.f (bs (decN m)) (⟨#[48]⟩ : ByteArray) = some (bs (decN m)) := by
    unfold strings_TrimLeft.f
    rw [if_pos ⟨by decide, by rw [bs_size]; omega⟩, bs_data]
    show some (⟨(Lib.trimLeftS (decN m) [48]).toArray⟩ : ByteArray) = _
    rw [trimL (by omega)]; rfl
  have hx : mn (mx e (-1048576)) 1048576 = e := by unfold mn mx; split <;> split <;> omega
  rw [hR, Option.bind_some, bs_list, if_neg (decN_ne _), hL, Option.bind_some, hx, bs_size, bs_size, hlen]
  rw [w64 (x := e + ((((decN m).length + z : Nat)) : Int)) (by omega) (by omega), show e + ((((decN m).length + z : Nat)) : Int) - ((decN m).length : Int) = e + z from by omega, w64 (by omega) (by omega)]
  rw [dec_Right_eq neg hm hmm (e + z) (by omega) (by omega), Option.bind_some, if_pos rfl]
end Go.Proofs.YtfndkpifgmcomaaDoor.Q
end
section
namespace Go.Proofs.YtfndkpifgmcomaaDoor.Q
open Go Go.RowKit Go.Proofs.YtfndkpifgmcomaaDoor.XD Go.Proofs.YtfndkpifgmcomaaDoorW.PrintWords Go.Proofs.YtfndkpifgmcomaaDoorW.PrintLast Go.Proofs.YtfndkpifgmcomaaDoorW.PrintMore
open Go.Proofs.YtfndkpifgmcomaaDoor.QNum (isNum isNum_iff vN decN decN_len decN_isNum vN_decN decN_lt decN_ge decN_ne decN_head)
set_option linter.unusedVariables false
theorem parts8 (n : Nat) (hn : n < 18446744073709551616) : flt_format_parts.f 8 11 52 (n : Int) = some (((n / 9223372036854775808 : Nat) : Int), ((n / 4503599627370496 % 2048 : Nat) : Int), ((n % 4503599627370496 : Nat) : Int)) :=
  parts_eq 8 11 52 n hn (by omega) (by omega) (by omega) (by omega)
theorem top8 : flt_format_top.f 8 11 52 = some 2047 := by
  unfold flt_format_top.f
  have h := shl1_i64 11 (by omega)
  rw [show ((11 : Nat) : Int) = 11 from rfl] at h
  rw [if_pos (by omega), h, show (((2 : Nat) ^ 11 : Nat) : Int) = 2048 from rfl, w64 (by omega) (by omega)]
  rfl
theorem bias8 : flt_format_bias.f 8 11 52 = some 1023 := by
  unfold flt_format_bias.f
  rw [top8, Option.bind_some, tdiv_ (by omega), w64 (by omega) (by omega)]
  rfl
theorem finite_eq (n : Nat) (hn : n < 18446744073709551616) : flt_Finite.f n = some (decide (n / 4503599627370496 % 2048 ≠ 2047)) := by
  unfold flt_Finite.f
  rw [show flt_wide.f = some (8, 11, 52) from rfl, Option.bind_some, parts8 n hn, Option.bind_some, Option.bind_some, top8, Option.bind_some]
  congr 1
  show (((n / 4503599627370496 % 2048 : Nat) : Int) != 2047) = _
  rw [Bool.eq_iff_iff, bne_iff_ne, decide_eq_true_iff]
  omega
def mant (n : Nat) : Nat := if n / 4503599627370496 % 2048 = 0 then n % 4503599627370496 else 4503599627370496 + n % 4503599627370496
def expo (n : Nat) : Int := (if n / 4503599627370496 % 2048 = 0 then 1 else ((n / 4503599627370496 % 2048 : Nat) : Int)) - 1075
theorem mant_lt (n : Nat) : mant n < 9007199254740992 := by unfold mant; split <;> omega
theorem V_lt {m b q : Nat} (hm : m < 9007199254740992) (hb : b ≤ 5) (hq : q ≤ 1074) : m * b ^ q < 10 ^ 800 := by
  have h1 := small_pow hb hq
  have h2 := Nat.mul_le_mul (show m ≤ 9007199254740992 by omega) h1
  have h3 : (9007199254740992 : Nat) * 5 ^ 1074 < 10 ^ 800 := by decide +kernel
  omega
theorem z_le {V m z : Nat} (hV : V < 10 ^ 800) (e : V = m * 10 ^ z) (hm : m % 10 ≠ 0) : z ≤ 800 := by
  rcases Nat.lt_or_ge 800 z with h | h
  · exfalso
    have h1 := ple 10 800 z (by omega) (by omega)
    have h2 : 1 * 10 ^ z ≤ m * 10 ^ z := Nat.mul_le_mul_right _ (by omega)
    omega
  · exact h
theorem exact_j2 (s m b q : Nat) (p e : Int) (hm0 : m ≠ 0) (hm : m < 9007199254740992) (hb : b ≤ 5) (hq : q ≤ 1074) (hp : mx p (wrap64 (-p)) = q) (he0 : -1100 ≤ e) (he1 : e ≤ 0)
    (mm z : Nat) (hV : m * b ^ q = mm * 10 ^ z) (hmm : mm % 10 ≠ 0) (k : Nat) (hk : 5000000 < k) :
    flt_Exact.j2 k s m p b e = some ((s : Int) == 1, bs (decN mm), e + z, 0) := by
  obtain ⟨k, rfl⟩ : ∃ r, k = r + 1 := ⟨k - 1, by omega⟩
  have hVlt := V_lt hm hb hq
  have hz := z_le hVlt hV hmm
  have hm8 : m < 10 ^ 800 := lt16 (by omega)
  have hp8 : b ^ q < 10 ^ 800 := lt760 (Nat.lt_of_le_of_lt (small_pow hb hq) five)
  have okm := okS_dec hm8
  have okp := okS_dec hp8
  have sm := decN_len m 800 hm8 (by omega)
  have sp := decN_len (b ^ q) 800 hp8 (by omega)
  have hmul := nat_Mul_eq (bs (decN m)) (bs (decN (b ^ q))) (by rw [bs_size]; omega) (by rw [bs_size]; omega) k (by omega)
  rw [okm, okp] at hmul
  have e1 : vA (bs (decN m)) = m := vA_dec m
  have e2 : vA (bs (decN (b ^ q))) = b ^ q := vA_dec _
  rw [e1, e2, show (if (true && true) = true then shortN (m * b ^ q) else ((⟨#[]⟩ : ByteArray), (1 : Int))) = shortN (m * b ^ q) from rfl, short_small hVlt (by omega) (by omega)] at hmul
  rw [flt_Exact.j2, if_neg (by omega), hp, power_eq b q hb hq k (by omega), Option.bind_some, word_eq m (by omega) k (by omega), Option.bind_some]
  rw [show (⟨(decN m).toArray⟩ : ByteArray) = bs (decN m) from rfl, show (⟨(decN (b ^ q)).toArray⟩ : ByteArray) = bs (decN (b ^ q)) from rfl, hmul, Option.bind_some, if_pos rfl]
  rw [show (⟨(decN (m * b ^ q)).toArray⟩ : ByteArray) = bs (decN (m * b ^ q)) from rfl, hV, dec_Make_eq _ hmm (hV ▸ hVlt) hz e he0 (by omega) k (by omega), Option.bind_some]
def tw (n : Nat) : Nat := min (Lib.ctz 64 (mant n)) (-(expo n)).toNat
def mw (n : Nat) : Nat := mant n / 2 ^ tw n
def pw (n : Nat) : Int := expo n + tw n
theorem expo_range (n : Nat) : -1074 ≤ expo n ∧ expo n ≤ 972 := by unfold expo; split <;> omega
theorem tw_spec (n : Nat) (hM : mant n ≠ 0) : mant n = mw n * 2 ^ tw n ∧ (mw n % 2 = 1 ∨ pw n = 0 ∨ (tw n = 0 ∧ 0 ≤ pw n)) ∧ (tw n = 0 ∨ pw n ≤ 0) ∧ tw n ≤ 63 := by
  have hml := mant_lt n
  obtain ⟨r, hr, hlt⟩ := Lib.ctzFrom_spec 64 (mant n) (by omega) (by omega)
  have hc : Lib.ctz 64 (mant n) = Lib.ctzFrom 64 (mant n) := by unfold Lib.ctz; rw [if_neg hM]
  have hle : tw n ≤ Lib.ctzFrom 64 (mant n) := by unfold tw; rw [hc]; exact Nat.min_le_left _ _
  have hle2 : tw n ≤ (-(expo n)).toNat := Nat.min_le_right _ _
  have hsplit : (2 : Nat) ^ Lib.ctzFrom 64 (mant n) = 2 ^ tw n * 2 ^ (Lib.ctzFrom 64 (mant n) - tw n) := by rw [← Nat.pow_add]; congr 1; omega
  have hpos : 0 < (2 : Nat) ^ tw n := Nat.pow_pos (by omega)
  have hmw : mw n = 2 ^ (Lib.ctzFrom 64 (mant n) - tw n) * (2 * r + 1) := by
    unfold mw
    conv => lhs; rw [hr]
    rw [hsplit, Nat.mul_assoc, Nat.mul_div_cancel_left _ hpos]
  refine ⟨?_, ?_, ?_, by omega⟩
  · rw [hmw, Nat.mul_comm, ← Nat.mul_assoc, ← hsplit]; exact hr
  · rcases Nat.lt_or_ge (tw n) (Lib.ctzFrom 64 (mant n)) with h | h
    · have h2 : tw n = (-(expo n)).toNat := by
        unfold tw at h ⊢
        rw [hc] at h ⊢
        omega
      unfold pw
      omega
    · left
      rw [hmw, show Lib.ctzFrom 64 (mant n) - tw n = 0 from by omega]
      omega
  · unfold pw
    omega
theorem exact_num (n : Nat) (hn : n < 18446744073709551616) (hx : n / 4503599627370496 % 2048 ≠ 2047) (hM : mant n ≠ 0)
    (mm z : Nat) (hV : mw n * (if pw n < 0 then 5 else 2) ^ (pw n).natAbs = mm * 10 ^ z) (hmm : mm % 10 ≠ 0) (k : Nat) (hk : 6000000 < k) :
    flt_Exact.f k n = some (((n / 9223372036854775808 : Nat) : Int) == 1, bs (decN mm), (if pw n < 0 then pw n else 0) + z, 0) := by
  obtain ⟨k, rfl⟩ : ∃ r, k = r + 1 + 1 := ⟨k - 2, by omega⟩
  have hml := mant_lt n
  obtain ⟨e0, e1⟩ := expo_range n
  obtain ⟨s1, s2, s3, s4⟩ := tw_spec n hM
  have hpos : 0 < (2 : Nat) ^ tw n := Nat.pow_pos (by omega)
  have hmle : mw n ≤ mant n := by rw [s1]; exact Nat.le_mul_of_pos_right _ hpos
  have hm0 : mw n ≠ 0 := by intro h; rw [h] at s1; simp at s1; exact hM s1
  have hpw : pw n = expo n + tw n := rfl
  have hj1 : ∀ s : Nat, flt_Exact.j1 (k + 1) s (mw n) (pw n) = some ((s : Int) == 1, bs (decN mm), (if pw n < 0 then pw n else 0) + z, 0) := by
    intro s
    rw [flt_Exact.j1]
    by_cases hp : pw n < 0
    · rw [if_pos hp] at hV
      rw [if_pos hp, if_pos hp]
      exact exact_j2 s (mw n) 5 (pw n).natAbs (pw n) (pw n) hm0 (by omega) (by omega) (by omega) (by rw [w64 (by omega) (by omega)]; unfold mx; split <;> omega) (by omega) (by omega) mm z hV hmm k (by omega)
    · rw [if_neg hp] at hV
      rw [if_neg hp, if_neg hp]
      have := exact_j2 s (mw n) 2 (pw n).natAbs (pw n) 0 hm0 (by omega) (by omega) (by omega) (by rw [w64 (by omega) (by omega)]; unfold mx; split <;> omega) (by omega) (by omega) mm z hV hmm k (by omega)
      exact this
  have hj0 : ∀ s x : Nat, x < 2048 → expo n = (if x = 0 then 1 else (x : Int)) - 1075 → flt_Exact.j0 (k + 1 + 1) s x (mant n) 8 11 52 = some ((s : Int) == 1, bs (decN mm), (if pw n < 0 then pw n else 0) + z, 0) := by
    intro s x hx2 hex
    have hmx : mx (x : Int) 1 = (if x = 0 then 1 else (x : Int)) := by unfold mx; split <;> split <;> omega
    have htz : bits_TrailingZeros64.f (mant n : Int) = some (Lib.ctz 64 (mant n) : Int) := by
      unfold bits_TrailingZeros64.f
      rw [if_pos (by omega), Int.toNat_natCast]
    have hmn : mn (Lib.ctz 64 (mant n) : Int) (mx (-(expo n)) 0) = (tw n : Int) := by
      unfold mn mx tw
      split <;> split <;> omega
    rw [flt_Exact.j0, bias8, Option.bind_some, if_neg (by omega), htz, Option.bind_some, hmx]
    rw [w64 (x := (if x = 0 then 1 else (x : Int)) - 1023) (by split <;> omega) (by split <;> omega), show (if x = 0 then 1 else (x : Int)) - 1023 - 52 = expo n from by rw [hex]; omega]
    rw [w64 (x := expo n) (by omega) (by omega), w64 (x := -(expo n)) (by omega) (by omega), hmn, if_pos (by omega), shr_nat (mant n) (tw n) (by omega), w64 (by omega) (by omega)]
    exact hj1 s
  unfold flt_Exact.f
  rw [finite_eq n hn, Option.bind_some, decide_eq_true hx, if_pos rfl, show flt_wide.f = some (8, 11, 52) from rfl, Option.bind_some, parts8 n hn, Option.bind_some]
  by_cases h0 : n / 4503599627370496 % 2048 = 0
  · have hm : mant n = n % 4503599627370496 := by unfold mant; rw [if_pos h0]
    rw [if_neg (by show ¬((((n / 4503599627370496 % 2048 : Nat)) : Int) > 0); omega)]
    rw [← hm]
    exact hj0 _ _ (by omega) (by unfold expo; simp only [if_pos h0])
  · have hm : mant n = 4503599627370496 + n % 4503599627370496 := by unfold mant; rw [if_neg h0]
    have hor : Go.bits .or .u64 ((n % 4503599627370496 : Nat) : Int) (shl .u64 1 52) = (mant n : Int) := by
      have h1 := shl_nat 1 52 (by omega) (by omega)
      have h2 := or_apart 1 (n % 4503599627370496) 52 (by omega) (by omega) (by omega)
      rw [bits_or_u64_nat _ _ (by omega) (by omega)] at h2
      rw [show shl .u64 1 52 = ((2 ^ 52 * 1 : Nat) : Int) from h1, bits_or_u64_nat _ _ (by omega) (by omega), Nat.or_comm, h2, hm]
    rw [if_pos (by show ((((n / 4503599627370496 % 2048 : Nat)) : Int) > 0); omega), if_pos (by show (0 : Int) ≤ 52; omega)]
    show flt_Exact.j0 (k + 1 + 1) _ _ (Go.bits .or .u64 ((n % 4503599627370496 : Nat) : Int) (shl .u64 1 52)) 8 11 52 = _
    rw [hor]
    exact hj0 _ _ (by omega) (by unfold expo; simp only [if_neg h0])
end Go.Proofs.YtfndkpifgmcomaaDoor.Q
end
section
namespace Go.Proofs.YtfndkpifgmcomaaDoor.Q
open Go Go.RowKit Go.Proofs.YtfndkpifgmcomaaDoor.XD Go.Proofs.YtfndkpifgmcomaaDoorW.PrintWords Go.Proofs.YtfndkpifgmcomaaDoorW.PrintLast Go.Proofs.YtfndkpifgmcomaaDoorW.PrintMore
set_option linter.unusedVariables false
theorem bl_spec : ∀ (x : Nat), x ≠ 0 → x < 18446744073709551616 → ∃ l, Lib.bitLen x = l + 1 ∧ 2 ^ l ≤ x ∧ x < 2 ^ (l + 1) := by
  intro x
  induction x using Nat.strongRecOn with
  | ind x ih =>
    intro h0 h1
    rw [Lib.bitLen_half x h0 h1]
    by_cases h : x / 2 = 0
    · refine ⟨0, ?_, by omega, by omega⟩
      rw [h]
      rfl
    · obtain ⟨l, e1, e2, e3⟩ := ih (x / 2) (by omega) h (by omega)
      refine ⟨l + 1, by omega, ?_, ?_⟩
      · rw [Nat.pow_succ]; omega
      · rw [Nat.pow_succ]; omega
theorem bl_le {x j : Nat} (hj : j ≤ 64) (hx : x < 18446744073709551616) : Lib.bitLen x ≤ j ↔ x < 2 ^ j := by
  constructor
  · intro h
    by_cases h0 : x = 0
    · subst h0; exact Nat.pow_pos (by omega)
    · obtain ⟨l, e1, e2, e3⟩ := bl_spec x h0 hx
      exact Nat.lt_of_lt_of_le e3 (Nat.pow_le_pow_right (by omega) (by omega))
  · exact Lib.bitLen_le x j hj
theorem len_eq (x : Nat) (hx : x < 18446744073709551616) : bits_Len64.f (x : Int) = some (Lib.bitLen x : Int) := by
  unfold bits_Len64.f
  rw [if_pos (by omega), Int.toNat_natCast]
theorem join8 (s x f : Nat) (hs : s ≤ 1) (hx : x < 2048) (hf : f < 4503599627370496) : flt_format_join.f 8 11 52 (s : Int) (x : Int) (f : Int) = some ((9223372036854775808 * s + 4503599627370496 * x + f : Nat) : Int) :=
  join_eq 8 11 52 s x f (by omega) hx hf (by show 9223372036854775808 * s + 9223372036854775808 ≤ 18446744073709551616; omega)
theorem of_parts {v s x f : Nat} (h : v = 9223372036854775808 * s + 4503599627370496 * x + f) (hx : x < 2048) (hf : f < 4503599627370496) :
    v / 9223372036854775808 = s ∧ v / 4503599627370496 % 2048 = x ∧ v % 4503599627370496 = f := by omega
theorem partsH (n : Nat) (hn : n < 65536) : flt_format_parts.f 2 5 10 (n : Int) = some (((n / 32768 : Nat) : Int), ((n / 1024 % 32 : Nat) : Int), ((n % 1024 : Nat) : Int)) :=
  parts_eq 2 5 10 n (by omega) (by omega) (by omega) (by omega) (by omega)
theorem joinH (s x f : Nat) (hs : s ≤ 1) (hx : x < 32) (hf : f < 1024) : flt_format_join.f 2 5 10 (s : Int) (x : Int) (f : Int) = some ((32768 * s + 1024 * x + f : Nat) : Int) :=
  join_eq 2 5 10 s x f (by omega) hx hf (by show 32768 * s + 32768 ≤ 18446744073709551616; omega)
theorem topH : flt_format_top.f 2 5 10 = some 31 := by decide +kernel
theorem biasH : flt_format_bias.f 2 5 10 = some 15 := by decide +kernel
def widH (n : Nat) : Nat :=
  if n / 1024 % 32 = 31 then 9223372036854775808 * (n / 32768) + 4503599627370496 * 2047 + n % 1024 * 4398046511104
  else if n / 1024 % 32 ≠ 0 then 9223372036854775808 * (n / 32768) + 4503599627370496 * (n / 1024 % 32 + 1008) + n % 1024 * 4398046511104
  else if n % 1024 = 0 then 9223372036854775808 * (n / 32768)
  else 9223372036854775808 * (n / 32768) + 4503599627370496 * (Lib.bitLen (n % 1024) + 998) + n % 1024 * 2 ^ (53 - Lib.bitLen (n % 1024)) % 4503599627370496
theorem upH {f : Nat} (h0 : f ≠ 0) (h1 : f < 1024) : 1 ≤ Lib.bitLen f ∧ Lib.bitLen f ≤ 10 ∧ 4503599627370496 ≤ f * 2 ^ (53 - Lib.bitLen f) ∧ f * 2 ^ (53 - Lib.bitLen f) < 9007199254740992 := by
  obtain ⟨l, e1, e2, e3⟩ := bl_spec f h0 (by omega)
  have hl : Lib.bitLen f ≤ 10 := Lib.bitLen_le f 10 (by omega) h1
  refine ⟨by omega, hl, ?_, ?_⟩
  · have h : 2 ^ l * 2 ^ (53 - Lib.bitLen f) ≤ f * 2 ^ (53 - Lib.bitLen f) := Nat.mul_le_mul_right _ e2
    rw [← Nat.pow_add, show l + (53 - Lib.bitLen f) = 52 from by omega] at h
    exact h
  · have h : f * 2 ^ (53 - Lib.bitLen f) < 2 ^ (l + 1) * 2 ^ (53 - Lib.bitLen f) := Nat.mul_lt_mul_of_pos_right e3 (Nat.pow_pos (by omega))
    rw [← Nat.pow_add, show l + 1 + (53 - Lib.bitLen f) = 53 from by omega] at h
    exact h
theorem widenH_eq (n : Nat) (hn : n < 65536) : flt_format_widen.f 2 5 10 (n : Int) = some (widH n : Int) := by
  have hs : n / 32768 ≤ 1 := by omega
  unfold flt_format_widen.f
  rw [show flt_wide.f = some (8, 11, 52) from rfl, Option.bind_some, partsH n hn, Option.bind_some]
  dsimp only
  rw [if_neg (by decide), topH, Option.bind_some]
  have hD : wrap64 ((52 : Int) - 10) = 42 := by decide +kernel
  have hsh : shl .u64 ((n % 1024 : Nat) : Int) 42 = ((n % 1024 * 4398046511104 : Nat) : Int) := shl_nat (n % 1024) 42 (by omega) (by show n % 1024 * 4398046511104 < _; omega)
  unfold widH
  by_cases hx : n / 1024 % 32 = 31
  · rw [if_pos hx]
    rw [if_pos (by omega), top8, Option.bind_some, hD, if_pos (by omega), hsh, show (2047 : Int) = ((2047 : Nat) : Int) from rfl, join8 _ _ _ hs (by omega) (by omega), Option.bind_some]
  · rw [if_neg (by omega), if_neg hx]
    by_cases h0 : n / 1024 % 32 ≠ 0
    · rw [if_pos h0]
      rw [if_pos (by omega), biasH, Option.bind_some, bias8, Option.bind_some, hD, if_pos (by omega), hsh]
      rw [w64 (x := ((n / 1024 % 32 : Nat) : Int) - 15) (by omega) (by omega), w64 (by omega) (by omega), show ((n / 1024 % 32 : Nat) : Int) - 15 + 1023 = ((n / 1024 % 32 + 1008 : Nat) : Int) from by omega, join8 _ _ _ hs (by omega) (by omega), Option.bind_some]
    · rw [if_neg (by omega), if_neg h0]
      by_cases hf : n % 1024 = 0
      · rw [if_pos (by omega), if_pos hf]
        have := join8 (n / 32768) 0 0 hs (by omega) (by omega)
        rw [show ((0 : Nat) : Int) = 0 from rfl] at this
        rw [this, Option.bind_some]
        exact congrArg some (by omega)
      · rw [if_neg hf]
        rw [if_neg (by omega), len_eq _ (by omega), Option.bind_some, biasH, Option.bind_some, bias8, Option.bind_some]
        obtain ⟨u1, u2, u3, u4⟩ := upH hf (by omega)
        have ho := ones_wrap 52 (by omega)
        rw [show ((52 : Nat) : Int) = 52 from rfl] at ho
        rw [w64 (x := (Lib.bitLen (n % 1024) : Int) - 1) (by omega) (by omega), show (Lib.bitLen (n % 1024) : Int) - 1 + 1 = Lib.bitLen (n % 1024) from by omega, w64 (x := (Lib.bitLen (n % 1024) : Int)) (by omega) (by omega), w64 (x := (Lib.bitLen (n % 1024) : Int) - 15) (by omega) (by omega), w64 (x := (Lib.bitLen (n % 1024) : Int) - 15 - 10) (by omega) (by omega), w64 (x := (Lib.bitLen (n % 1024) : Int) - 15 - 10 + 1023) (by omega) (by omega), w64 (x := 52 - ((Lib.bitLen (n % 1024) : Int) - 1)) (by omega) (by omega)]
        rw [show (Lib.bitLen (n % 1024) : Int) - 15 - 10 + 1023 = ((Lib.bitLen (n % 1024) + 998 : Nat) : Int) from by omega, show 52 - ((Lib.bitLen (n % 1024) : Int) - 1) = ((53 - Lib.bitLen (n % 1024) : Nat) : Int) from by omega, if_pos (by omega), if_pos (by omega)]
        rw [shl_nat (n % 1024) (53 - Lib.bitLen (n % 1024)) (by omega) (by omega), ho, and_ones _ 52 (by omega) (by omega), show (2 : Nat) ^ 52 = 4503599627370496 from rfl]
        rw [join8 _ _ _ hs (by omega) (Nat.mod_lt _ (by omega)), Option.bind_some]
def narH (n : Nat) : Nat :=
  if n / 4503599627370496 % 2048 = 2047 then 32768 * (n / 9223372036854775808) + 1024 * 31 + n % 4503599627370496 / 4398046511104
  else if n / 4503599627370496 % 2048 = 0 ∨ 1039 ≤ n / 4503599627370496 % 2048 then 32768 * (n / 9223372036854775808)
  else if 1008 < n / 4503599627370496 % 2048 then 32768 * (n / 9223372036854775808) + 1024 * (n / 4503599627370496 % 2048 - 1008) + n % 4503599627370496 / 4398046511104
  else 32768 * (n / 9223372036854775808) + (4503599627370496 + n % 4503599627370496) / 2 ^ min (1051 - n / 4503599627370496 % 2048) 63
theorem lowH {f e : Nat} (hf : f < 4503599627370496) (he : 42 + 1 ≤ e) : (4503599627370496 + f) / 2 ^ e < 1024 := by
  have h1 : (2 : Nat) ^ (42 + 1) ≤ 2 ^ e := Nat.pow_le_pow_right (by omega) he
  have h2 : (4503599627370496 + f) / 2 ^ e ≤ (4503599627370496 + f) / 2 ^ (42 + 1) := Nat.div_le_div_left h1 (Nat.pow_pos (by omega))
  have h3 : (2 : Nat) ^ (42 + 1) = 4398046511104 * 2 := rfl
  rw [h3] at h2
  omega
theorem narH_lt (n : Nat) (hn : n < 18446744073709551616) : narH n < 65536 := by
  unfold narH
  split
  · omega
  · split
    · omega
    · split
      · omega
      · have := lowH (f := n % 4503599627370496) (e := min (1051 - n / 4503599627370496 % 2048) 63) (by omega) (by omega)
        omega
theorem narrowH_eq (n : Nat) (hn : n < 18446744073709551616) (k : Nat) : flt_format_narrow.f (k + 1) 2 5 10 (n : Int) = some (narH n : Int) := by
  have hs : n / 9223372036854775808 ≤ 1 := by omega
  have hfl : n % 4503599627370496 / 4398046511104 < 1024 := by omega
  unfold flt_format_narrow.f
  rw [show flt_wide.f = some (8, 11, 52) from rfl, Option.bind_some, parts8 n hn, Option.bind_some]
  dsimp only
  rw [bias8, Option.bind_some, biasH, Option.bind_some, top8, Option.bind_some, show wrap64 ((52 : Int) - 10) = 42 from by decide +kernel]
  have hsh : shr .u64 ((n % 4503599627370496 : Nat) : Int) 42 = ((n % 4503599627370496 / 4398046511104 : Nat) : Int) := shr_nat (n % 4503599627370496) 42 (by omega)
  have hj0 := joinH (n / 9223372036854775808) 0 0 hs (by omega) (by omega)
  rw [show ((0 : Nat) : Int) = 0 from rfl] at hj0
  unfold narH
  by_cases hx : n / 4503599627370496 % 2048 = 2047
  · rw [if_pos hx]
    rw [if_pos (by omega), topH, Option.bind_some, if_pos (by omega), hsh, show (31 : Int) = ((31 : Nat) : Int) from rfl, joinH _ _ _ hs (by omega) hfl, Option.bind_some]
  · rw [if_neg (by omega), if_neg hx]
    by_cases h0 : n / 4503599627370496 % 2048 = 0
    · rw [if_pos (by omega), if_pos (Or.inl h0), flt_format_narrow.j0, if_pos rfl, hj0, Option.bind_some]
      congr 1
    · rw [if_neg (by omega), topH, Option.bind_some, w64 (x := ((n / 4503599627370496 % 2048 : Nat) : Int) - 1023) (by omega) (by omega), w64 (x := ((n / 4503599627370496 % 2048 : Nat) : Int) - 1023 + 15) (by omega) (by omega), flt_format_narrow.j0]
      by_cases h1 : 1039 ≤ n / 4503599627370496 % 2048
      · rw [if_pos (by rw [decide_eq_true_iff]; omega), if_pos (Or.inr h1), hj0, Option.bind_some]
        congr 1
      · have hr : ¬(n / 4503599627370496 % 2048 = 0 ∨ 1039 ≤ n / 4503599627370496 % 2048) := by omega
        rw [if_neg hr]
        rw [if_neg (by rw [decide_eq_true_iff]; omega)]
        by_cases h2 : 1008 < n / 4503599627370496 % 2048
        · rw [if_pos h2]
          rw [if_pos (by omega), if_pos (by omega), hsh, show ((n / 4503599627370496 % 2048 : Nat) : Int) - 1023 + 15 = ((n / 4503599627370496 % 2048 - 1008 : Nat) : Int) from by omega, joinH _ _ _ hs (by omega) hfl, Option.bind_some]
        · rw [if_neg h2]
          rw [if_neg (by omega), if_pos (by omega)]
          have hor : Go.bits .or .u64 (shl .u64 1 52) ((n % 4503599627370496 : Nat) : Int) = ((4503599627370496 + n % 4503599627370496 : Nat) : Int) := by
            rw [show shl .u64 1 52 = ((2 ^ 52 * 1 : Nat) : Int) from by decide +kernel, or_apart 1 (n % 4503599627370496) 52 (by omega) (by omega) (by omega)]
          have hmn : mn (wrap64 (wrap64 ((42 : Int) + 1) - (((n / 4503599627370496 % 2048 : Nat) : Int) - 1023 + 15))) 63 = ((min (1051 - n / 4503599627370496 % 2048) 63 : Nat) : Int) := by
            rw [w64 (x := (42 : Int) + 1) (by omega) (by omega), w64 (by omega) (by omega)]
            unfold mn
            split <;> omega
          rw [hmn, if_pos (by omega), hor, Int.toNat_natCast]
          have hlow := lowH (f := n % 4503599627370496) (e := min (1051 - n / 4503599627370496 % 2048) 63) (by omega) (by omega)
          have hdiv : ((4503599627370496 + n % 4503599627370496 : Nat) : Int) / 2 ^ min (1051 - n / 4503599627370496 % 2048) 63 = (((4503599627370496 + n % 4503599627370496) / 2 ^ min (1051 - n / 4503599627370496 % 2048) 63 : Nat) : Int) := by
            rw [Int.natCast_ediv, Int.natCast_pow]; rfl
          have := joinH (n / 9223372036854775808) 0 _ hs (by omega) hlow
          rw [show ((0 : Nat) : Int) = 0 from rfl] at this
          rw [hdiv, this, Option.bind_some]
          congr 1
theorem nar_widH (n : Nat) (hn : n < 65536) : narH (widH n) = n := by
  have hs : n / 32768 ≤ 1 := by omega
  have hn2 : n = 32768 * (n / 32768) + 1024 * (n / 1024 % 32) + n % 1024 := by omega
  unfold widH
  by_cases hx : n / 1024 % 32 = 31
  · rw [if_pos hx]
    obtain ⟨q1, q2, q3⟩ := of_parts (s := n / 32768) (x := 2047) (f := n % 1024 * 4398046511104) rfl (by omega) (by omega)
    unfold narH
    rw [q1, q2, q3, if_pos rfl]
    omega
  · rw [if_neg hx]
    by_cases h0 : n / 1024 % 32 ≠ 0
    · rw [if_pos h0]
      obtain ⟨q1, q2, q3⟩ := of_parts (s := n / 32768) (x := n / 1024 % 32 + 1008) (f := n % 1024 * 4398046511104) rfl (by omega) (by omega)
      unfold narH
      rw [q1, q2, q3, if_neg (by omega), if_neg (by omega), if_pos (by omega)]
      omega
    · rw [if_neg h0]
      by_cases hf : n % 1024 = 0
      · rw [if_pos hf]
        obtain ⟨q1, q2, q3⟩ := of_parts (v := 9223372036854775808 * (n / 32768)) (s := n / 32768) (x := 0) (f := 0) rfl (by omega) (by omega)
        unfold narH
        rw [q1, q2, q3, if_neg (by omega), if_pos (Or.inl rfl)]
        omega
      · rw [if_neg hf]
        obtain ⟨u1, u2, u3, u4⟩ := upH hf (by omega)
        obtain ⟨q1, q2, q3⟩ := of_parts (s := n / 32768) (x := Lib.bitLen (n % 1024) + 998) (f := n % 1024 * 2 ^ (53 - Lib.bitLen (n % 1024)) % 4503599627370496) rfl (by omega) (Nat.mod_lt _ (by omega))
        unfold narH
        rw [q1, q2, q3, if_neg (by omega), if_neg (by omega), if_neg (by omega), show min (1051 - (Lib.bitLen (n % 1024) + 998)) 63 = 53 - Lib.bitLen (n % 1024) from by omega]
        rw [show 4503599627370496 + n % 1024 * 2 ^ (53 - Lib.bitLen (n % 1024)) % 4503599627370496 = n % 1024 * 2 ^ (53 - Lib.bitLen (n % 1024)) from by omega, Nat.mul_div_cancel _ (Nat.pow_pos (by omega))]
        omega
theorem widH_lt (n : Nat) (hn : n < 65536) : widH n < 18446744073709551616 := by
  unfold widH
  split
  · omega
  · split
    · omega
    · split
      · omega
      · rename_i hf
        obtain ⟨u1, u2, u3, u4⟩ := upH hf (by omega)
        omega
theorem partsS (n : Nat) (hn : n < 4294967296) : flt_format_parts.f 4 8 23 (n : Int) = some (((n / 2147483648 : Nat) : Int), ((n / 8388608 % 256 : Nat) : Int), ((n % 8388608 : Nat) : Int)) :=
  parts_eq 4 8 23 n (by omega) (by omega) (by omega) (by omega) (by omega)
theorem joinS (s x f : Nat) (hs : s ≤ 1) (hx : x < 256) (hf : f < 8388608) : flt_format_join.f 4 8 23 (s : Int) (x : Int) (f : Int) = some ((2147483648 * s + 8388608 * x + f : Nat) : Int) :=
  join_eq 4 8 23 s x f (by omega) hx hf (by show 2147483648 * s + 2147483648 ≤ 18446744073709551616; omega)
theorem topS : flt_format_top.f 4 8 23 = some 255 := by decide +kernel
theorem biasS : flt_format_bias.f 4 8 23 = some 127 := by decide +kernel
def widS (n : Nat) : Nat :=
  if n / 8388608 % 256 = 255 then 9223372036854775808 * (n / 2147483648) + 4503599627370496 * 2047 + n % 8388608 * 536870912
  else if n / 8388608 % 256 ≠ 0 then 9223372036854775808 * (n / 2147483648) + 4503599627370496 * (n / 8388608 % 256 + 896) + n % 8388608 * 536870912
  else if n % 8388608 = 0 then 9223372036854775808 * (n / 2147483648)
  else 9223372036854775808 * (n / 2147483648) + 4503599627370496 * (Lib.bitLen (n % 8388608) + 873) + n % 8388608 * 2 ^ (53 - Lib.bitLen (n % 8388608)) % 4503599627370496
theorem upS {f : Nat} (h0 : f ≠ 0) (h1 : f < 8388608) : 1 ≤ Lib.bitLen f ∧ Lib.bitLen f ≤ 23 ∧ 4503599627370496 ≤ f * 2 ^ (53 - Lib.bitLen f) ∧ f * 2 ^ (53 - Lib.bitLen f) < 9007199254740992 := by
  obtain ⟨l, e1, e2, e3⟩ := bl_spec f h0 (by omega)
  have hl : Lib.bitLen f ≤ 23 := Lib.bitLen_le f 23 (by omega) h1
  refine ⟨by omega, hl, ?_, ?_⟩
  · have h : 2 ^ l * 2 ^ (53 - Lib.bitLen f) ≤ f * 2 ^ (53 - Lib.bitLen f) := Nat.mul_le_mul_right _ e2
    rw [← Nat.pow_add, show l + (53 - Lib.bitLen f) = 52 from by omega] at h
    exact h
  · have h : f * 2 ^ (53 - Lib.bitLen f) < 2 ^ (l + 1) * 2 ^ (53 - Lib.bitLen f) := Nat.mul_lt_mul_of_pos_right e3 (Nat.pow_pos (by omega))
    rw [← Nat.pow_add, show l + 1 + (53 - Lib.bitLen f) = 53 from by omega] at h
    exact h
theorem widenS_eq (n : Nat) (hn : n < 4294967296) : flt_format_widen.f 4 8 23 (n : Int) = some (widS n : Int) := by
  have hs : n / 2147483648 ≤ 1 := by omega
  unfold flt_format_widen.f
  rw [show flt_wide.f = some (8, 11, 52) from rfl, Option.bind_some, partsS n hn, Option.bind_some]
  dsimp only
  rw [if_neg (by decide), topS, Option.bind_some]
  have hD : wrap64 ((52 : Int) - 23) = 29 := by decide +kernel
  have hsh : shl .u64 ((n % 8388608 : Nat) : Int) 29 = ((n % 8388608 * 536870912 : Nat) : Int) := shl_nat (n % 8388608) 29 (by omega) (by show n % 8388608 * 536870912 < _; omega)
  unfold widS
  by_cases hx : n / 8388608 % 256 = 255
  · rw [if_pos hx]
    rw [if_pos (by omega), top8, Option.bind_some, hD, if_pos (by omega), hsh, show (2047 : Int) = ((2047 : Nat) : Int) from rfl, join8 _ _ _ hs (by omega) (by omega), Option.bind_some]
  · rw [if_neg (by omega), if_neg hx]
    by_cases h0 : n / 8388608 % 256 ≠ 0
    · rw [if_pos h0]
      rw [if_pos (by omega), biasS, Option.bind_some, bias8, Option.bind_some, hD, if_pos (by omega), hsh]
      rw [w64 (x := ((n / 8388608 % 256 : Nat) : Int) - 127) (by omega) (by omega), w64 (by omega) (by omega), show ((n / 8388608 % 256 : Nat) : Int) - 127 + 1023 = ((n / 8388608 % 256 + 896 : Nat) : Int) from by omega, join8 _ _ _ hs (by omega) (by omega), Option.bind_some]
    · rw [if_neg (by omega), if_neg h0]
      by_cases hf : n % 8388608 = 0
      · rw [if_pos (by omega), if_pos hf]
        have := join8 (n / 2147483648) 0 0 hs (by omega) (by omega)
        rw [show ((0 : Nat) : Int) = 0 from rfl] at this
        rw [this, Option.bind_some]
        exact congrArg some (by omega)
      · rw [if_neg hf]
        rw [if_neg (by omega), len_eq _ (by omega), Option.bind_some, biasS, Option.bind_some, bias8, Option.bind_some]
        obtain ⟨u1, u2, u3, u4⟩ := upS hf (by omega)
        have ho := ones_wrap 52 (by omega)
        rw [show ((52 : Nat) : Int) = 52 from rfl] at ho
        rw [w64 (x := (Lib.bitLen (n % 8388608) : Int) - 1) (by omega) (by omega), show (Lib.bitLen (n % 8388608) : Int) - 1 + 1 = Lib.bitLen (n % 8388608) from by omega, w64 (x := (Lib.bitLen (n % 8388608) : Int)) (by omega) (by omega), w64 (x := (Lib.bitLen (n % 8388608) : Int) - 127) (by omega) (by omega), w64 (x := (Lib.bitLen (n % 8388608) : Int) - 127 - 23) (by omega) (by omega), w64 (x := (Lib.bitLen (n % 8388608) : Int) - 127 - 23 + 1023) (by omega) (by omega), w64 (x := 52 - ((Lib.bitLen (n % 8388608) : Int) - 1)) (by omega) (by omega)]
        rw [show (Lib.bitLen (n % 8388608) : Int) - 127 - 23 + 1023 = ((Lib.bitLen (n % 8388608) + 873 : Nat) : Int) from by omega, show 52 - ((Lib.bitLen (n % 8388608) : Int) - 1) = ((53 - Lib.bitLen (n % 8388608) : Nat) : Int) from by omega, if_pos (by omega), if_pos (by omega)]
        rw [shl_nat (n % 8388608) (53 - Lib.bitLen (n % 8388608)) (by omega) (by omega), ho, and_ones _ 52 (by omega) (by omega), show (2 : Nat) ^ 52 = 4503599627370496 from rfl]
        rw [join8 _ _ _ hs (by omega) (Nat.mod_lt _ (by omega)), Option.bind_some]
def narS (n : Nat) : Nat :=
  if n / 4503599627370496 % 2048 = 2047 then 2147483648 * (n / 9223372036854775808) + 8388608 * 255 + n % 4503599627370496 / 536870912
  else if n / 4503599627370496 % 2048 = 0 ∨ 1151 ≤ n / 4503599627370496 % 2048 then 2147483648 * (n / 9223372036854775808)
  else if 896 < n / 4503599627370496 % 2048 then 2147483648 * (n / 9223372036854775808) + 8388608 * (n / 4503599627370496 % 2048 - 896) + n % 4503599627370496 / 536870912
  else 2147483648 * (n / 9223372036854775808) + (4503599627370496 + n % 4503599627370496) / 2 ^ min (926 - n / 4503599627370496 % 2048) 63
theorem lowS {f e : Nat} (hf : f < 4503599627370496) (he : 29 + 1 ≤ e) : (4503599627370496 + f) / 2 ^ e < 8388608 := by
  have h1 : (2 : Nat) ^ (29 + 1) ≤ 2 ^ e := Nat.pow_le_pow_right (by omega) he
  have h2 : (4503599627370496 + f) / 2 ^ e ≤ (4503599627370496 + f) / 2 ^ (29 + 1) := Nat.div_le_div_left h1 (Nat.pow_pos (by omega))
  have h3 : (2 : Nat) ^ (29 + 1) = 536870912 * 2 := rfl
  rw [h3] at h2
  omega
theorem narS_lt (n : Nat) (hn : n < 18446744073709551616) : narS n < 4294967296 := by
  unfold narS
  split
  · omega
  · split
    · omega
    · split
      · omega
      · have := lowS (f := n % 4503599627370496) (e := min (926 - n / 4503599627370496 % 2048) 63) (by omega) (by omega)
        omega
theorem narrowS_eq (n : Nat) (hn : n < 18446744073709551616) (k : Nat) : flt_format_narrow.f (k + 1) 4 8 23 (n : Int) = some (narS n : Int) := by
  have hs : n / 9223372036854775808 ≤ 1 := by omega
  have hfl : n % 4503599627370496 / 536870912 < 8388608 := by omega
  unfold flt_format_narrow.f
  rw [show flt_wide.f = some (8, 11, 52) from rfl, Option.bind_some, parts8 n hn, Option.bind_some]
  dsimp only
  rw [bias8, Option.bind_some, biasS, Option.bind_some, top8, Option.bind_some, show wrap64 ((52 : Int) - 23) = 29 from by decide +kernel]
  have hsh : shr .u64 ((n % 4503599627370496 : Nat) : Int) 29 = ((n % 4503599627370496 / 536870912 : Nat) : Int) := shr_nat (n % 4503599627370496) 29 (by omega)
  have hj0 := joinS (n / 9223372036854775808) 0 0 hs (by omega) (by omega)
  rw [show ((0 : Nat) : Int) = 0 from rfl] at hj0
  unfold narS
  by_cases hx : n / 4503599627370496 % 2048 = 2047
  · rw [if_pos hx]
    rw [if_pos (by omega), topS, Option.bind_some, if_pos (by omega), hsh, show (255 : Int) = ((255 : Nat) : Int) from rfl, joinS _ _ _ hs (by omega) hfl, Option.bind_some]
  · rw [if_neg (by omega), if_neg hx]
    by_cases h0 : n / 4503599627370496 % 2048 = 0
    · rw [if_pos (by omega), if_pos (Or.inl h0), flt_format_narrow.j0, if_pos rfl, hj0, Option.bind_some]
      congr 1
    · rw [if_neg (by omega), topS, Option.bind_some, w64 (x := ((n / 4503599627370496 % 2048 : Nat) : Int) - 1023) (by omega) (by omega), w64 (x := ((n / 4503599627370496 % 2048 : Nat) : Int) - 1023 + 127) (by omega) (by omega), flt_format_narrow.j0]
      by_cases h1 : 1151 ≤ n / 4503599627370496 % 2048
      · rw [if_pos (by rw [decide_eq_true_iff]; omega), if_pos (Or.inr h1), hj0, Option.bind_some]
        congr 1
      · have hr : ¬(n / 4503599627370496 % 2048 = 0 ∨ 1151 ≤ n / 4503599627370496 % 2048) := by omega
        rw [if_neg hr]
        rw [if_neg (by rw [decide_eq_true_iff]; omega)]
        by_cases h2 : 896 < n / 4503599627370496 % 2048
        · rw [if_pos h2]
          rw [if_pos (by omega), if_pos (by omega), hsh, show ((n / 4503599627370496 % 2048 : Nat) : Int) - 1023 + 127 = ((n / 4503599627370496 % 2048 - 896 : Nat) : Int) from by omega, joinS _ _ _ hs (by omega) hfl, Option.bind_some]
        · rw [if_neg h2]
          rw [if_neg (by omega), if_pos (by omega)]
          have hor : Go.bits .or .u64 (shl .u64 1 52) ((n % 4503599627370496 : Nat) : Int) = ((4503599627370496 + n % 4503599627370496 : Nat) : Int) := by
            rw [show shl .u64 1 52 = ((2 ^ 52 * 1 : Nat) : Int) from by decide +kernel, or_apart 1 (n % 4503599627370496) 52 (by omega) (by omega) (by omega)]
          have hmn : mn (wrap64 (wrap64 ((29 : Int) + 1) - (((n / 4503599627370496 % 2048 : Nat) : Int) - 1023 + 127))) 63 = ((min (926 - n / 4503599627370496 % 2048) 63 : Nat) : Int) := by
            rw [w64 (x := (29 : Int) + 1) (by omega) (by omega), w64 (by omega) (by omega)]
            unfold mn
            split <;> omega
          rw [hmn, if_pos (by omega), hor, Int.toNat_natCast]
          have hlow := lowS (f := n % 4503599627370496) (e := min (926 - n / 4503599627370496 % 2048) 63) (by omega) (by omega)
          have hdiv : ((4503599627370496 + n % 4503599627370496 : Nat) : Int) / 2 ^ min (926 - n / 4503599627370496 % 2048) 63 = (((4503599627370496 + n % 4503599627370496) / 2 ^ min (926 - n / 4503599627370496 % 2048) 63 : Nat) : Int) := by
            rw [Int.natCast_ediv, Int.natCast_pow]; rfl
          have := joinS (n / 9223372036854775808) 0 _ hs (by omega) hlow
          rw [show ((0 : Nat) : Int) = 0 from rfl] at this
          rw [hdiv, this, Option.bind_some]
          congr 1
theorem nar_widS (n : Nat) (hn : n < 4294967296) : narS (widS n) = n := by
  have hs : n / 2147483648 ≤ 1 := by omega
  have hn2 : n = 2147483648 * (n / 2147483648) + 8388608 * (n / 8388608 % 256) + n % 8388608 := by omega
  unfold widS
  by_cases hx : n / 8388608 % 256 = 255
  · rw [if_pos hx]
    obtain ⟨q1, q2, q3⟩ := of_parts (s := n / 2147483648) (x := 2047) (f := n % 8388608 * 536870912) rfl (by omega) (by omega)
    unfold narS
    rw [q1, q2, q3, if_pos rfl]
    omega
  · rw [if_neg hx]
    by_cases h0 : n / 8388608 % 256 ≠ 0
    · rw [if_pos h0]
      obtain ⟨q1, q2, q3⟩ := of_parts (s := n / 2147483648) (x := n / 8388608 % 256 + 896) (f := n % 8388608 * 536870912) rfl (by omega) (by omega)
      unfold narS
      rw [q1, q2, q3, if_neg (by omega), if_neg (by omega), if_pos (by omega)]
      omega
    · rw [if_neg h0]
      by_cases hf : n % 8388608 = 0
      · rw [if_pos hf]
        obtain ⟨q1, q2, q3⟩ := of_parts (v := 9223372036854775808 * (n / 2147483648)) (s := n / 2147483648) (x := 0) (f := 0) rfl (by omega) (by omega)
        unfold narS
        rw [q1, q2, q3, if_neg (by omega), if_pos (Or.inl rfl)]
        omega
      · rw [if_neg hf]
        obtain ⟨u1, u2, u3, u4⟩ := upS hf (by omega)
        obtain ⟨q1, q2, q3⟩ := of_parts (s := n / 2147483648) (x := Lib.bitLen (n % 8388608) + 873) (f := n % 8388608 * 2 ^ (53 - Lib.bitLen (n % 8388608)) % 4503599627370496) rfl (by omega) (Nat.mod_lt _ (by omega))
        unfold narS
        rw [q1, q2, q3, if_neg (by omega), if_neg (by omega), if_neg (by omega), show min (926 - (Lib.bitLen (n % 8388608) + 873)) 63 = 53 - Lib.bitLen (n % 8388608) from by omega]
        rw [show 4503599627370496 + n % 8388608 * 2 ^ (53 - Lib.bitLen (n % 8388608)) % 4503599627370496 = n % 8388608 * 2 ^ (53 - Lib.bitLen (n % 8388608)) from by omega, Nat.mul_div_cancel _ (Nat.pow_pos (by omega))]
        omega
theorem widS_lt (n : Nat) (hn : n < 4294967296) : widS n < 18446744073709551616 := by
  unfold widS
  split
  · omega
  · split
    · omega
    · split
      · omega
      · rename_i hf
        obtain ⟨u1, u2, u3, u4⟩ := upS hf (by omega)
        omega
end Go.Proofs.YtfndkpifgmcomaaDoor.Q
end
