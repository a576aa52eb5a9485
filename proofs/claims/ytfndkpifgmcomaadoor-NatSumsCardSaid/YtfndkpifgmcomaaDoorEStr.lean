/- The contracts, by hand, of the functions of package strings that the program calls (Trim, TrimLeft, TrimRight, Compare, Repeat), in the form in which the printed walks use them. -/
import Derived.Test.YtfndkpifgmcomaaDoorX0
import Derived.Test.YtfndkpifgmcomaaDoorShelf
import Derived.Shelf.Strings.SlTrimAscii
namespace Go.Proofs.YtfndkpifgmcomaaDoor.XD
open Go.RowKit Go.Proofs.YtfndkpifgmcomaaDoorW.PrintWords Go.Proofs.YtfndkpifgmcomaaDoorW.PrintLast Go.Proofs.YtfndkpifgmcomaaDoorW.PrintMore
set_option linter.unusedVariables false

/-- A cutset that is of ASCII alone, and not too long. -/
def cutOk (c : ByteArray) : Bool := c.data.toList.all (fun b => decide (b.toNat < 128)) && decide (c.size < 4294967281)
theorem cutOk_ascii {c : ByteArray} (h : cutOk c = true) : ∀ (j : Nat) b, c.data.toList[j]? = some b → b.toNat < 128 := by
  intro j b hb
  simp only [cutOk, Bool.and_eq_true, List.all_eq_true, decide_eq_true_eq] at h
  exact h.1 b (List.mem_of_getElem? hb)
theorem cutOk_size {c : ByteArray} (h : cutOk c = true) : c.size < 4294967281 := by
  simp only [cutOk, Bool.and_eq_true, decide_eq_true_eq] at h
  exact h.2
theorem info119 : (Tryd.prog.info? 119).map (fun i => (i.zero, i.size)) = some (some (.agg (Array.replicate 256 (.bool false))), 256) := by kernel_rfl

def strings_Trim.f (a0 : ByteArray) (a1 : ByteArray) : Option (ByteArray) :=
  if cutOk a1 = true ∧ a0.size ≤ 9223372036854775807 then some ⟨(Lib.trimS a0.data.toList a1.data.toList).toArray⟩ else none
theorem strings_Trim.calls (a0 : ByteArray) (a1 : ByteArray) (r : ByteArray) (w : World) (h : strings_Trim.f a0 a1 = some r) :
    Calls Tryd.prog 58 #[.string a0, .string a1] w fun e w' => e = .returned (.string r) ∧ Below w.heap.size w w' := by
  unfold strings_Trim.f at h
  split at h
  · rename_i hc
    obtain rfl := Option.some.inj h
    exact Any.strings_Trim_laid Tryd.lays160 info119 a0 a1 w hc.2 (cutOk_size hc.1) (cutOk_ascii hc.1)
  · cases h
def strings_TrimLeft.f (a0 : ByteArray) (a1 : ByteArray) : Option (ByteArray) :=
  if cutOk a1 = true ∧ a0.size ≤ 9223372036854775807 then some ⟨(Lib.trimLeftS a0.data.toList a1.data.toList).toArray⟩ else none
theorem strings_TrimLeft.calls (a0 : ByteArray) (a1 : ByteArray) (r : ByteArray) (w : World) (h : strings_TrimLeft.f a0 a1 = some r) :
    Calls Tryd.prog 112 #[.string a0, .string a1] w fun e w' => e = .returned (.string r) ∧ Below w.heap.size w w' := by
  unfold strings_TrimLeft.f at h
  split at h
  · rename_i hc
    obtain rfl := Option.some.inj h
    exact Any.strings_TrimLeft_laid Tryd.lays161 info119 a0 a1 w (cutOk_size hc.1) (cutOk_ascii hc.1)
  · cases h
def strings_TrimRight.f (a0 : ByteArray) (a1 : ByteArray) : Option (ByteArray) :=
  if cutOk a1 = true ∧ a0.size ≤ 9223372036854775807 then some ⟨(Lib.trimRightS a0.data.toList a1.data.toList).toArray⟩ else none
theorem strings_TrimRight.calls (a0 : ByteArray) (a1 : ByteArray) (r : ByteArray) (w : World) (h : strings_TrimRight.f a0 a1 = some r) :
    Calls Tryd.prog 111 #[.string a0, .string a1] w fun e w' => e = .returned (.string r) ∧ Below w.heap.size w w' := by
  unfold strings_TrimRight.f at h
  split at h
  · rename_i hc
    obtain rfl := Option.some.inj h
    exact Any.strings_TrimRight_laid Tryd.lays162 info119 a0 a1 w hc.2 (cutOk_size hc.1) (cutOk_ascii hc.1)
  · cases h
def strings_Compare.f (a0 : ByteArray) (a1 : ByteArray) : Option (Int) := some (Lib.compareBytes a0.data.toList a1.data.toList)
theorem strings_Compare.calls (a0 : ByteArray) (a1 : ByteArray) (r : Int) (w : World) (h : strings_Compare.f a0 a1 = some r) :
    Calls Tryd.prog 95 #[.string a0, .string a1] w fun e w' => e = .returned (.int .i64 r) ∧ Drawn0 w w' := by
  obtain rfl := Option.some.inj h
  refine (Tryd.strings_Compare a0 a1 w).mono ?_
  rintro e w' ⟨rfl, rfl⟩
  exact ⟨rfl, Drawn0.refl _⟩
def strings_Repeat.f (a0 : ByteArray) (a1 : Int) : Option (ByteArray) :=
  if 0 ≤ a1 ∧ a1 ≤ 9223372036854775807 ∧ a0.size * a1.toNat ≤ 140737488355328 then some ⟨(Lib.repeatL a0.data.toList a1.toNat).toArray⟩ else none
theorem strings_Repeat.calls (a0 : ByteArray) (a1 : Int) (r : ByteArray) (w : World) (h : strings_Repeat.f a0 a1 = some r) :
    Calls Tryd.prog 130 #[.string a0, .int .i64 a1] w fun e w' => e = .returned (.string r) ∧ Below w.heap.size w w' := by
  unfold strings_Repeat.f at h
  split at h
  · rename_i hc
    obtain rfl := Option.some.inj h
    obtain ⟨n, rfl⟩ := Int.eq_ofNat_of_zero_le hc.1
    exact Tryd.strings_Repeat a0 n w (by omega) (by simpa using hc.2.2)
  · cases h

def nat_order.f (a0 : ByteArray) (a1 : ByteArray) : Option (Int) :=
  if a0.size = a1.size then some (Lib.compareBytes a0.data.toList a1.data.toList) else if a0.size < a1.size then some (-1) else some 1
theorem b2i_t (w : World) : Calls Tryd.prog 94 #[.bool true] w fun e w' => e = .returned (.int .i64 1) ∧ w = w' := by
  go_enter Tryd.func94, Tryd.ntmps94
  go_wp2
  go_ret
  exact ⟨rfl, rfl⟩
theorem b2i_f (w : World) : Calls Tryd.prog 94 #[.bool false] w fun e w' => e = .returned (.int .i64 0) ∧ w = w' := by
  go_enter Tryd.func94, Tryd.ntmps94
  go_wp2
  go_ret
  exact ⟨rfl, rfl⟩
theorem nat_order.calls (a0 : ByteArray) (a1 : ByteArray) (r : Int) (w : World) (h : nat_order.f a0 a1 = some r) :
    Calls Tryd.prog 49 #[.string a0, .string a1] w fun e w' => e = .returned (.int .i64 r) ∧ Drawn0 w w' := by
  unfold nat_order.f at h
  by_cases c : a0.size = a1.size
  · rw [if_pos c] at h
    obtain rfl := Option.some.inj h
    have c1 : ((a0.size : Int) != (a1.size : Int)) = false := by simp [c]
    have c2 : (a0.size != a1.size) = false := by simp [c]
    have c3 : (a0.size == a1.size) = true := by simp [c]
    clear c h
    go_enter Tryd.func49, Tryd.ntmps49
    go_wp2_with (go_at_call 95; refine (Tryd.strings_Compare a0 a1 _).mono ?_; rintro e w' ⟨rfl, rfl⟩)
    go_ret
    exact ⟨rfl, Drawn0.refl _⟩
  · rw [if_neg c] at h
    have c1 : ((a0.size : Int) != (a1.size : Int)) = true := by simp; omega
    have c2 : (a0.size != a1.size) = true := by simp [c]
    have c3 : (a0.size == a1.size) = false := by simp [c]
    by_cases d : a0.size < a1.size
    · rw [if_pos d] at h
      obtain rfl := Option.some.inj h
      have d1 : decide (a0.size < a1.size) = true := by simpa using d
      have d2 : decide ((a0.size : Int) < (a1.size : Int)) = true := by simpa using d
      clear c d h
      go_enter Tryd.func49, Tryd.ntmps49
      go_wp2_with fail
      refine (b2i_t _).mono ?_
      rintro e w' ⟨rfl, rfl⟩
      go_wp2
      go_ret
      exact ⟨by simp, Drawn0.refl _⟩
    · rw [if_neg d] at h
      obtain rfl := Option.some.inj h
      have d1 : decide (a0.size < a1.size) = false := by simpa using d
      have d2 : decide ((a0.size : Int) < (a1.size : Int)) = false := by simpa using d
      clear c d h
      go_enter Tryd.func49, Tryd.ntmps49
      go_wp2_with fail
      refine (b2i_f _).mono ?_
      rintro e w' ⟨rfl, rfl⟩
      go_wp2
      go_ret
      exact ⟨by simp, Drawn0.refl _⟩
end Go.Proofs.YtfndkpifgmcomaaDoor.XD
