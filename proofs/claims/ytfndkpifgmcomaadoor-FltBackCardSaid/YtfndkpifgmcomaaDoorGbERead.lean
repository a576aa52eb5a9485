/- Part of this claim: ERead. -/
import Derived.Laws.RangeString
import Derived.Laws.RangeAny
import Derived.Test.YtfndkpifgmcomaaDoorGbXM1
namespace Go.Proofs.YtfndkpifgmcomaaDoor.XD
open Go.RowKit Go.Proofs.YtfndkpifgmcomaaDoorW.PrintWords Go.Proofs.YtfndkpifgmcomaaDoorW.PrintLast Go.Proofs.YtfndkpifgmcomaaDoorW.PrintMore
attribute [local go_sem] max2_int min2_int max_two min_two max_three min_three max_four min_four
set_option linter.unusedVariables false
def isDig (c : UInt8) : Bool := decide (48 ≤ c.toNat) && decide (c.toNat ≤ 57)
def val (l : List UInt8) : Int := l.foldl (fun x c => x * 10 + ((c.toNat : Int) - 48)) 0
def readL : Nat → List UInt8 → List Int → List Int
  | 0, _, n => n
  | k + 1, l, n => if l = [] then n else readL k (l.take (l.length - 9)) (n ++ [val (l.drop (l.length - 9))])
theorem val_snoc (l : List UInt8) (c : UInt8) : val (l ++ [c]) = val l * 10 + ((c.toNat : Int) - 48) := by simp [val, List.foldl_append]
theorem isDig_iff (c : UInt8) : isDig c = true ↔ 48 ≤ c.toNat ∧ c.toNat ≤ 57 := by simp [isDig]
theorem val_bound : ∀ (n : Nat) (l : List UInt8), l.length = n → l.all isDig = true → 0 ≤ val l ∧ val l < 10 ^ n := by
  intro n
  induction n with
  | zero =>
    intro l hl _
    obtain rfl := List.eq_nil_of_length_eq_zero hl
    simp [val]
  | succ n ih =>
    intro l hl ha
    have hne : l ≠ [] := by intro e; simp [e] at hl
    obtain ⟨q, c, rfl⟩ : ∃ q c, l = q ++ [c] := ⟨l.dropLast, l.getLast hne, (List.dropLast_concat_getLast hne).symm⟩
    rw [List.all_append] at ha
    simp only [Bool.and_eq_true] at ha
    obtain ⟨h0, h1⟩ := ih q (by simpa using hl) ha.1
    have hc := (isDig_iff c).1 (by simpa using ha.2)
    rw [val_snoc, Int.pow_succ]
    omega
theorem val_small (l : List UInt8) (hl : l.length ≤ 9) (ha : l.all isDig = true) : 0 ≤ val l ∧ val l ≤ 999999999 := by
  obtain ⟨h0, h1⟩ := val_bound l.length l rfl ha
  have : (10 : Int) ^ l.length ≤ 10 ^ 9 := by exact_mod_cast Nat.pow_le_pow_right (n := 10) (by omega) hl
  omega
theorem all_take (l : List UInt8) (k : Nat) (h : l.all isDig = true) : (l.take k).all isDig = true := by
  rw [List.all_eq_true] at h ⊢
  exact fun x hx => h x (List.mem_of_mem_take hx)
theorem all_drop (l : List UInt8) (k : Nat) (h : l.all isDig = true) : (l.drop k).all isDig = true := by
  rw [List.all_eq_true] at h ⊢
  exact fun x hx => h x (List.mem_of_mem_drop hx)
theorem lsize (s : ByteArray) : s.data.toList.length = s.size := by rw [Array.length_toList]; rfl
theorem dig_at (s : ByteArray) (h : s.data.toList.all isDig = true) (k : Nat) (hk : k < s.size) : 48 ≤ (s[k]'hk).toNat ∧ (s[k]'hk).toNat ≤ 57 := by
  rw [List.all_eq_true] at h
  exact (isDig_iff _).1 (h _ (List.getElem_mem (l := s.data.toList) (by rw [lsize]; exact hk)))
theorem take_at (s : ByteArray) (k : Nat) (hk : k < s.size) : s.data.toList.take (k + 1) = s.data.toList.take k ++ [s[k]] := by
  rw [List.take_succ_eq_append_getElem (by rw [lsize]; exact hk)]; rfl
theorem ext_to (s : ByteArray) (n : Nat) : (s.extract 0 n).data.toList = s.data.toList.take n := by simp [ByteArray.data_extract]
theorem ext_from (s : ByteArray) (n : Nat) (h : n ≤ s.size) : (s.extract n s.size).data.toList = s.data.toList.drop n := by
  simp only [ByteArray.data_extract, Array.toList_extract, List.extract_eq_take_drop]
  exact List.take_of_length_le (by rw [List.length_drop, lsize]; exact Nat.le_refl _)
theorem readL_step (k : Nat) (l : List UInt8) (n : List Int) (h : l ≠ []) : readL (k + 1) l n = readL k (l.take (l.length - 9)) (n ++ [val (l.drop (l.length - 9))]) := by
  simp only [readL, if_neg h]
theorem next_dig {P : Program} (w : World) (s : ByteArray) (pos : Nat) (h : pos < s.size) (hd : (s[pos]'h).toNat < 128) (ty : TypeId) :
    (Instr.next (.pointer (some ⟨w.heap.size, 0, none⟩)) true ty).run P (w.iter s pos) = .ok (.tuple #[.bool true, .int .i64 pos, .int .i32 (s[pos]'h).toNat]) (w.iter s (pos + 1)) := run_next_ascii w s pos ty h hd
def nat_read.f (a0 : ByteArray) : Option (List Int) := if a0.data.toList.all isDig = true ∧ a0.size ≤ 140737488351232 then some (readL (a0.size + 1) a0.data.toList []) else none
set_option maxHeartbeats 8000000 in
set_option maxRecDepth 100000 in
theorem nat_read.calls (a0 : ByteArray) (r : List Int) (w : World) (h : nat_read.f a0 = some r) :
    Calls Tryd.prog 96 #[.string a0] w fun e w' => ∃ v0_ : Value, e = .returned (v0_) ∧ Kd.R (Kd.int .u64) 34 w' w.heap.size (fun _ => True) v0_ r ∧ Below w.heap.size w w' := by
  have HB := Aside0.mk (Below.refl w.heap.size w)
  unfold nat_read.f at h
  split at h
  case isFalse => cases h
  rename_i hc
  have hr := Option.some.inj h
  have HD := Aside0.mk hc.1
  have HS := Aside0.mk hc.2
  have HR := Aside0.mk hr
  clear h hc hr
  go_enter Tryd.func96, Tryd.ntmps96
  go_wp2
  go_loopg [0, 3] (a0.size + 1) (fun kq v0 v3 w' => ∃ (s : ByteArray) (xs : List Int), v0 = .string s ∧ Aside0 (s.data.toList.all isDig = true) ∧ Aside0 (s.size ≤ 140737488351232 ∧ s.size < kq) ∧ Aside0 (readL kq s.data.toList xs = r) ∧ Aside0 (0 < s.size → xs.length * 9 + s.size ≤ a0.size) ∧ Aside0 (Kd.R (Kd.int .u64) 34 w' w.heap.size (fun _ => True) v3 xs) ∧ Aside0 (Below w.heap.size w w'))
  case atStart => exact ⟨a0, [], rfl, HD, ⟨HS.out, by omega⟩, HR, ⟨by simp⟩, ⟨Kd.R_nil _ _ _ _ _⟩, HB⟩
  case round =>
    clear HD HR HB
    obtain ⟨s, xs, rfl, HD, HZ, HR, HL, HO, HB⟩ := hrel
    cases gk with
    | zero => have := HZ.out; omega
    | succ k1 =>
      by_cases c : s.size = 0
      · have c0 : decide (0 < (s.size : Int)) = false := by simp [c]
        have c1 : decide (0 < s.size) = false := by simp [c]
        go_wp2
        go_ret
        refine ⟨_, rfl, ?_, HB.out⟩
        have e : s.data.toList = [] := by
          have : s.data.toList.length = s.size := by rw [Array.length_toList]; rfl
          exact List.eq_nil_of_length_eq_zero (by omega)
        have := HR.out
        rw [e] at this
        simp only [readL, if_true] at this
        rw [← this]
        exact HO.out
      · have c0 : decide (0 < (s.size : Int)) = true := by simp; omega
        have c1 : decide (0 < s.size) = true := by simp; omega
        have hb := HZ.out.1
        by_cases d : 9 < s.size
        · go_wp2
          have hs1 : (s.extract (s.size - 9) s.size).data.toList = s.data.toList.drop (s.size - 9) := ext_from s _ (by omega)
          generalize s.extract (s.size - 9) s.size = sub at hs1 ⊢
          have HS1 := Aside0.mk hs1
          clear hs1
          have hsz : sub.size ≤ 9 := by have := congrArg List.length HS1.out; rw [lsize, List.length_drop, lsize] at this; omega
          have HSD : Aside0 (sub.data.toList.all isDig = true) := ⟨by rw [HS1.out]; exact all_drop _ _ HD.out⟩
          go_loopw [5] (fun v5 w' => ∃ pos : Nat, pos ≤ sub.size ∧ v5 = .int .u64 (val (sub.data.toList.take pos)) ∧ w' = wr.iter sub pos) (fun _ w' => sub.size - w'.iterPos wr.heap.size)
          case atStart => exact ⟨0, by omega, by simp [val], rfl⟩
          case round =>
            obtain ⟨pos, hpos, rfl, rfl⟩ := hrel
            by_cases hp : pos < sub.size
            · have hd := dig_at sub HSD.out pos hp
              have hnx := fun ty => next_dig (P := Tryd.prog) wr sub pos hp (by omega) ty
              have hv := val_small (sub.data.toList.take pos) (by rw [List.length_take, lsize]; omega) (all_take _ _ HSD.out)
              have HT : Aside0 (val (sub.data.toList.take (pos + 1)) = val (sub.data.toList.take pos) * 10 + ((sub[pos].toNat : Int) - 48)) := ⟨by rw [take_at sub pos hp, val_snoc]⟩
              obtain ⟨h1, h2⟩ := hd
              obtain ⟨h3, h4⟩ := hv
              go_wp2
              refine ⟨⟨pos + 1, by omega, by rw [HT.out], rfl⟩, ?_⟩
              simp only [World.iterPos_iter]
              omega
            · have hnx := fun ty => run_next_end (P := Tryd.prog) wr sub pos ty hp
              have hX : val (sub.data.toList.take pos) = val (s.data.toList.drop (s.data.toList.length - 9)) := by
                rw [List.take_of_length_le (by rw [lsize]; omega), HS1.out, lsize]
              have hne : s.data.toList ≠ [] := by intro e; have := congrArg List.length e; rw [lsize] at this; exact c this
              have HR1 := Aside0.mk ((readL_step k1 s.data.toList xs hne).symm.trans HR.out)
              generalize val (sub.data.toList.take pos) = X at hX ⊢
              rw [← hX] at HR1
              clear hX
              have hlen := HL.out (by omega)
              have HO1 := Aside0.mk (Kd.R_alloc HO.out (.stringIter sub pos))
              have HB1 := Aside0.mk (below_alloc HB.out (.stringIter sub pos))
              have hiter : wr.iter sub pos = wr.alloc (.stringIter sub pos) := rfl
              rw [hiter] at hnx
              generalize wr.alloc (.stringIter sub pos) = w1 at HO1 HB1 hnx hiter
              rw [hiter]
              clear hiter
              go_wp2_with (first | ((with_reducible refine gate_builtin (b := .append) (xs := #[.tmp 28, .tmp 30]) rfl ?_); at_builtin; refine Kd.R_append (Kd.int .u64) (w0 := w) w.heap.size rfl (.tmp 28) (.tmp 30) 73 34 (.int .u64 0) 8 rfl Tryd.underlying73 info34 rfl (by decide) (by omega) u3 xs X [.int .u64 X] (fun _ => True) (fun _ => False) rfl rfl ?aP (fun _ hk => hk.elim) ?aF ?aO ?aB ?aS ?aL ?_; (case aP => exact rfl); (case aB => exact HB1.out); (case aF => exact (fun _ _ => trivial)); (case aO => exact HO1.out); (case aS => exact below_size HB1.out); (case aL => have := HS.out; omega); intro v2 w2 ho hb2 hg hat; have HO2 := Aside0.mk ho; have HB2 := Aside0.mk hb2; clear ho hb2 hg hat HO1 HB1))
              go_roundg k1
              case measure => omega
              case rel => exact ⟨s.extract 0 (s.size - 9), xs ++ [X], by first | rfl | (simp; done), ⟨by rw [ext_to]; exact all_take _ _ HD.out⟩, ⟨by rw [← lsize, ext_to, List.length_take, lsize]; have := HZ.out; omega⟩, ⟨by rw [ext_to]; rw [lsize] at HR1; exact HR1.out⟩, ⟨by rw [List.length_append, List.length_singleton, ← lsize, ext_to, List.length_take, lsize]; omega⟩, HO2, HB2⟩
        · go_wp2
          have hs1 : s.data.toList = s.data.toList.drop (s.size - 9) := by rw [show s.size - 9 = 0 from by omega]; rfl
          have HS1 := Aside0.mk hs1
          clear hs1
          have hsz : s.size ≤ 9 := by omega
          have HSD := HD
          go_loopw [5] (fun v5 w' => ∃ pos : Nat, pos ≤ s.size ∧ v5 = .int .u64 (val (s.data.toList.take pos)) ∧ w' = wr.iter s pos) (fun _ w' => s.size - w'.iterPos wr.heap.size)
          case atStart => exact ⟨0, by omega, by simp [val], rfl⟩
          case round =>
            obtain ⟨pos, hpos, rfl, rfl⟩ := hrel
            by_cases hp : pos < s.size
            · have hd := dig_at s HSD.out pos hp
              have hnx := fun ty => next_dig (P := Tryd.prog) wr s pos hp (by omega) ty
              have hv := val_small (s.data.toList.take pos) (by rw [List.length_take, lsize]; omega) (all_take _ _ HSD.out)
              have HT : Aside0 (val (s.data.toList.take (pos + 1)) = val (s.data.toList.take pos) * 10 + ((s[pos].toNat : Int) - 48)) := ⟨by rw [take_at s pos hp, val_snoc]⟩
              obtain ⟨h1, h2⟩ := hd
              obtain ⟨h3, h4⟩ := hv
              go_wp2
              refine ⟨⟨pos + 1, by omega, by rw [HT.out], rfl⟩, ?_⟩
              simp only [World.iterPos_iter]
              omega
            · have hnx := fun ty => run_next_end (P := Tryd.prog) wr s pos ty hp
              have hX : val (s.data.toList.take pos) = val (s.data.toList.drop (s.data.toList.length - 9)) := by
                rw [List.take_of_length_le (by rw [lsize]; omega), lsize]; exact congrArg val HS1.out
              have hne : s.data.toList ≠ [] := by intro e; have := congrArg List.length e; rw [lsize] at this; exact c this
              have HR1 := Aside0.mk ((readL_step k1 s.data.toList xs hne).symm.trans HR.out)
              generalize val (s.data.toList.take pos) = X at hX ⊢
              rw [← hX] at HR1
              clear hX
              have hlen := HL.out (by omega)
              have HO1 := Aside0.mk (Kd.R_alloc HO.out (.stringIter s pos))
              have HB1 := Aside0.mk (below_alloc HB.out (.stringIter s pos))
              have hiter : wr.iter s pos = wr.alloc (.stringIter s pos) := rfl
              rw [hiter] at hnx
              generalize wr.alloc (.stringIter s pos) = w1 at HO1 HB1 hnx hiter
              rw [hiter]
              clear hiter
              go_wp2_with (first | ((with_reducible refine gate_builtin (b := .append) (xs := #[.tmp 28, .tmp 30]) rfl ?_); at_builtin; refine Kd.R_append (Kd.int .u64) (w0 := w) w.heap.size rfl (.tmp 28) (.tmp 30) 73 34 (.int .u64 0) 8 rfl Tryd.underlying73 info34 rfl (by decide) (by omega) u3 xs X [.int .u64 X] (fun _ => True) (fun _ => False) rfl rfl ?aP (fun _ hk => hk.elim) ?aF ?aO ?aB ?aS ?aL ?_; (case aP => exact rfl); (case aB => exact HB1.out); (case aF => exact (fun _ _ => trivial)); (case aO => exact HO1.out); (case aS => exact below_size HB1.out); (case aL => have := HS.out; omega); intro v2 w2 ho hb2 hg hat; have HO2 := Aside0.mk ho; have HB2 := Aside0.mk hb2; clear ho hb2 hg hat HO1 HB1))
              go_roundg k1
              case measure => omega
              case rel => exact ⟨s.extract 0 (s.size - 9), xs ++ [X], by rw [show s.size - 9 = 0 from by omega]; first | rfl | simp, ⟨by rw [ext_to]; exact all_take _ _ HD.out⟩, ⟨by rw [← lsize, ext_to, List.length_take, lsize]; have := HZ.out; omega⟩, ⟨by rw [ext_to]; rw [lsize] at HR1; exact HR1.out⟩, ⟨by rw [List.length_append, List.length_singleton, ← lsize, ext_to, List.length_take, lsize]; omega⟩, HO2, HB2⟩
end Go.Proofs.YtfndkpifgmcomaaDoor.XD
