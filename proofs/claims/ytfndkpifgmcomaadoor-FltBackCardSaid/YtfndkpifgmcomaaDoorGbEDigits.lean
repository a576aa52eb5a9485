/- Part of this claim: EDigits. -/
import Derived.Lib.OthersKept
import Derived.Test.YtfndkpifgmcomaaDoorGbEBack
import Derived.Test.YtfndkpifgmcomaaDoorGbEDec
import Derived.Test.YtfndkpifgmcomaaDoorGbShelf
namespace Go.Proofs.YtfndkpifgmcomaaDoor.XD
open Go.RowKit Go.Shelf Go.Proofs.YtfndkpifgmcomaaDoorW.PrintWords Go.Proofs.YtfndkpifgmcomaaDoorW.PrintLast Go.Proofs.YtfndkpifgmcomaaDoorW.PrintMore
attribute [local go_sem] Oper.semAt_some
set_option linter.unusedVariables false
def digStep (acc : List UInt8) (x : Int) : List UInt8 :=
  acc ++ (if acc = [] then dec10 x.toNat else List.replicate (9 - (dec10 x.toNat).length) 48 ++ dec10 x.toNat)
def digL (xs : List Int) : List UInt8 := xs.foldl digStep []
theorem digL_snoc (xs : List Int) (x : Int) : digL (xs ++ [x]) = digStep (digL xs) x := by simp [digL]
def okLimb (x : Int) : Bool := decide (0 ≤ x) && decide (x ≤ 999999999)
def nat_number_digits.f (l0 : List Int) : Option (ByteArray) :=
  if l0.all okLimb = true ∧ l0.length ≤ 1000000 then some (if l0 = [] then ⟨#[48]⟩ else ⟨(digL l0.reverse).toArray⟩) else none
theorem dec10F_len : ∀ (f n : Nat), n < 10 ^ f → (dec10F f n).length ≤ f := by
  intro f
  induction f with
  | zero => intro n _; simp [dec10F]
  | succ f ih =>
    intro n hn
    simp only [dec10F]
    split
    · simp
    · rw [List.length_append, List.length_singleton]
      have := ih (n / 10) (by rw [Nat.pow_succ] at hn; omega)
      omega
theorem dec10F_more : ∀ (f n : Nat), n < 10 ^ f → 0 < f → dec10F (f + 1) n = dec10F f n := by
  intro f
  induction f with
  | zero => intro n _ h; omega
  | succ f ih =>
    intro n hn _
    conv => lhs; rw [dec10F]
    conv => rhs; rw [dec10F]
    split
    · rfl
    · rename_i h10
      rcases Nat.eq_zero_or_pos f with rfl | hf
      · simp at hn; omega
      · rw [ih (n / 10) (by rw [Nat.pow_succ] at hn; omega) hf]
theorem dec10_eq (f n : Nat) (hn : n < 10 ^ f) (h0 : 0 < f) (hf : f ≤ 20) : dec10 n = dec10F f n := by
  have h : ∀ d, dec10F (f + d) n = dec10F f n := by
    intro d
    induction d with
    | zero => rfl
    | succ d ih =>
      rw [← Nat.add_assoc, dec10F_more (f + d) n (Nat.lt_of_lt_of_le hn (Nat.pow_le_pow_right (by omega) (by omega))) (by omega), ih]
  have := h (20 - f)
  rw [show f + (20 - f) = 20 from by omega] at this
  exact this
theorem dec10_nine (n : Nat) (h : n ≤ 999999999) : (dec10 n).length ≤ 9 := by
  rw [dec10_eq 9 n (by omega) (by omega) (by omega)]
  exact dec10F_len 9 n (by omega)
theorem dec10_pos (n : Nat) : dec10 n ≠ [] := by
  unfold dec10
  rw [dec10F]
  split
  · simp
  · simp
theorem digStep_len (acc : List UInt8) (x : Int) (h : okLimb x = true) : (digStep acc x).length ≤ acc.length + 9 ∧ digStep acc x ≠ [] := by
  simp only [okLimb, Bool.and_eq_true, decide_eq_true_eq] at h
  have h9 := dec10_nine x.toNat (by omega)
  have hp := dec10_pos x.toNat
  unfold digStep
  constructor
  · rw [List.length_append]
    split
    · omega
    · rw [List.length_append, List.length_replicate]; omega
  · split
    · simp [hp]
    · simp [hp]
theorem bF_grown {T e : TypeId} {B b : Nat} {bs : List Value} {W W' : World} {row : Option Nat} (h : Lib.IsBuilderF T e B b bs W) (hg : W.grownBy W' row) (hr : ∀ r, row = some r → ∃ o : Obj, W.heap[r]? = some o ∧ o.isCells = false) : Lib.IsBuilderF T e B b bs W' := by
  have key : ∀ p, Lib.BuilderAtF T e B b p bs W → Lib.BuilderAtF T e B b p bs W' := by
    rintro p ⟨hB, v, hbk, hown, hne⟩
    have hno : ∀ k cs t fr, W.heap[k]? = some (.cells cs t fr) → some k ≠ row := by
      intro k cs t fr hk he
      obtain ⟨o, ho, hc⟩ := hr k he.symm
      rw [hk] at ho
      cases ho
      cases hc
    refine ⟨hB, v, ?_, hown.kept hg ?_, hne⟩
    · rw [hg.block b (Array.getElem?_eq_some_iff.1 hbk).1 (hno b _ _ _ hbk)]
      exact hbk
    · rcases hown.2 with ⟨rfl, _⟩ | ⟨g, cap, cur, fz, rfl, hbg, hh, _⟩
      · exact .inl rfl
      · refine .inr fun he => hno g _ _ _ hh ?_
        rw [← he]; rfl
  rcases h with h | h
  · exact .inl (key _ h)
  · exact .inr (key _ h)
theorem bF_below {T e : TypeId} {B b : Nat} {bs : List Value} {W W' : World} (h : Lib.IsBuilderF T e B b bs W) (hb : Below W.heap.size W W') : Lib.IsBuilderF T e B b bs W' :=
  bF_grown h (grown_of_below hb none) (fun r e => by cases e)
theorem keeps_below {B : Nat} {W W' : World} (hb : Below W.heap.size W W') : KeepsFrom B W W' := (KeepsOthers.of_grownBy (grown_of_below hb none) (fun j o e => by cases e)).from B
theorem keeps_others {B b : Nat} {e : TypeId} {W W' : World} (hs : W.heap.size ≤ W'.heap.size) (hb : ∃ cs t fr, W.heap[b]? = some (.cells cs t fr)) (h : Lib.OthersKept e (some b) W W') : KeepsFrom B W W' := by
  refine ⟨hs, fun k o _ hk ho => h k o hk ?_ ?_⟩
  · intro he
    injection he with he
    subst he
    obtain ⟨cs, t, fr, hb⟩ := hb
    rw [hk] at hb
    cases hb
    cases ho
  · rintro c fz rfl
    cases ho
theorem blk_kept {W W' : World} {row : Option Nat} {k : Nat} {cs : Array Value} {t : TypeId} {fr : Nat × Nat} (h : W.heap[k]? = some (.cells cs t fr)) (hg : W.grownBy W' row) (hr : ∀ r, row = some r → ∃ o : Obj, W.heap[r]? = some o ∧ o.isCells = false) : W'.heap[k]? = some (.cells cs t fr) := by
  rw [hg.block k (Array.getElem?_eq_some_iff.1 h).1 ?_]
  · exact h
  · intro he
    obtain ⟨o, ho, hc⟩ := hr k he.symm
    rw [h] at ho
    cases ho
    cases hc
theorem bF_block {T e : TypeId} {B b : Nat} {bs : List Value} {W : World} (h : Lib.IsBuilderF T e B b bs W) : ∃ cs t fr, W.heap[b]? = some (.cells cs t fr) := by
  rcases h with ⟨_, v, hb, _⟩ | ⟨_, v, hb, _⟩
  · exact ⟨_, _, _, hb⟩
  · exact ⟨_, _, _, hb⟩
theorem others_size {B b : Nat} {e : TypeId} {W W' : World} (hb : Below B W W') (h : Lib.OthersKept e (some b) W W') (hk : ∃ cs t fr, W.heap[b]? = some (.cells cs t fr)) : W.heap.size ≤ W'.heap.size := hb.size
set_option maxRecDepth 100000 in
set_option maxHeartbeats 8000000 in
theorem nat_number_digits.calls (A0 : Option Addr) (c0 : Nat) (l0 : List Int) (r : ByteArray) (w : World) (hr0 : Kd.C (Kd.int .u64) w A0 l0.length l0) (hc0 : l0.length ≤ c0) (h : nat_number_digits.f l0 = some r) :
    Calls Tryd.prog 98 #[.slice A0 l0.length c0] w fun e w' => e = .returned (.string r) ∧ Below w.heap.size w w' := by
  unfold nat_number_digits.f at h
  split at h
  case isFalse => cases h
  rename_i hc
  have hr := Option.some.inj h
  have HC := Aside0.mk hc
  have HR := Aside0.mk hr
  clear h hc hr
  have hI : Words w.heap.size w (.slice A0 l0.length c0) l0 := by
    refine ⟨A0, c0, rfl, hr0.2.1, fun h0 => ?_⟩
    obtain ⟨ad, rfl, hcell⟩ := hr0.2.2 h0
    refine ⟨ad, rfl, ?_, fun j hj => ?_⟩
    · obtain ⟨ad', e, hx⟩ := Kd.at_int hr0 0 (by omega) (by omega)
      injection e with e
      subst e
      have := World.block_lt_of_cell? w _ hx
      rwa [add_block] at this
    · obtain ⟨ad', e, hx⟩ := Kd.at_int hr0 (j : Int) (by omega) (by omega)
      injection e with e
      subst e
      simpa [rd] using hx
  have HI := Aside0.mk hI
  clear hI hr0 hc0
  refine (callsIn_wide (n := 4)).1 ?_
  refine callsIn_of_wp_marks Tryd.func98 rfl trivial ?_ rfl
  simp only [Tryd.ntmps98, List.size_toArray, List.length_cons, List.length_nil, Nat.reduceAdd, Nat.reduceSub, Array.replicate_succ, Array.replicate_zero, List.push_toArray, List.append_toArray, List.nil_append, List.cons_append]
  gi_wp2_with (refine ⟨trivial, ?_⟩; gi_at_call 127; refine (back_in Fence.wide _ trivial rfl _ _ _ _).mono ?_; rintro e w' ⟨rfl, rfl⟩)
  have hB0 : Below w.heap.size w ((w.alloc (.cells #[.pointer none, .slice none 0 0] 140)).alloc (.cells #[.slice A0 l0.length c0] 73)) := ((Below.refl _ w).alloc (Nat.le_refl _) _).alloc (by simp) _
  have bN := Boxed.new (w.alloc (.cells #[.pointer none, .slice none 0 0] 140)) 73 (.slice A0 l0.length c0)
  rw [World.size_alloc] at bN
  have bF : Lib.IsBuilderF 140 5 w.heap.size w.heap.size (Lib.byteCells []) ((w.alloc (.cells #[.pointer none, .slice none 0 0] 140)).alloc (.cells #[.slice A0 l0.length c0] 73)) := by
    refine .inl ⟨Nat.le_refl _, .slice none 0 0, ?_, World.ownsRowF_nil _ _ _ _, by simp [Value.ownBlock]⟩
    rw [Below.heap_alloc _ _ _ (by simp)]
    exact World.alloc_heap_new w _
  obtain ⟨zs, hzs⟩ : ∃ zs : List { x : Int // okLimb x = true }, zs.map (·.1) = l0 := by
    refine ⟨l0.attach.map fun x => ⟨x.1, List.all_eq_true.1 HC.out.1 x.1 x.2⟩, ?_⟩
    rw [List.map_map]
    conv => rhs; rw [← List.attach_map_subtype_val l0]
    rfl
  have HZ := Aside0.mk hzs
  clear hzs
  refine wpIn_rangeFunc_ownG (F := Fence.wide) rfl (by omega) (gf := 144) (lb := #[.pointer (some ⟨w.heap.size + 1, 0, none⟩)]) rfl trivial (enters_of Tryd.func144 (by kernel_rfl) rfl)
    (back_stops (fun x : { x : Int // okLimb x = true } => x.1) Fence.wide _ trivial rfl (by omega) (w.heap.size + 1) w.heap.size _ zs _ (by simp) (by simp; omega) bN.cell (by rw [HZ.out]; exact HI.out.below hB0))
    (fun h k => h.trans k) (KpB.put (by simp; omega) (by simp)) (Below.refl _ _) (fun _ => rfl)
    (fun pre W => (Lib.IsBuilderF 140 5 w.heap.size w.heap.size (Lib.byteCells (digL (pre.map (·.2.1)))) W ∧ Aside0 ((digL (pre.map (·.2.1))).length ≤ 9 * pre.length) ∧ W.heap[w.heap.size + 1]? = some (.cells #[.slice A0 l0.length c0] 73 (0, 0))) ∧ Below w.heap.size w W)
    (fun _ _ _ => False)
    (OwnFrom.and (Own.from (fun s A B row hs hg hr => ⟨bF_grown hs.1 hg hr, hs.2.1, blk_kept hs.2.2 hg hr⟩) _) (ownFrom_below (Nat.le_refl _) (by simp; omega)))
    (fun _ _ _ _ _ hs _ _ => hs)
    ⟨⟨bF, ⟨by simp [digL]⟩, by have := World.alloc_heap_new (w.alloc (.cells #[.pointer none, .slice none 0 0] 140)) (.cells #[.slice A0 l0.length c0] 73); rwa [World.size_alloc] at this⟩, hB0⟩
    (fun x => { tmps := #[.slice A0 l0.length c0, undef, .string ⟨#[]⟩, .pointer (some ⟨w.heap.size, 0, none⟩), undef, .int .u64 x.2.1, undef, .slice A0 l0.length c0, .func (.func 144) #[] #[.pointer (some ⟨w.heap.size + 1, 0, none⟩)], .int .i64 x.1, .int .u64 x.2.1, undef, undef, undef, undef, undef, undef, undef, undef, undef, undef, undef, undef, undef, undef], defers := [] }) ?assign ?body ?done ?stop
  case assign =>
    intro l x W K hK
    gi_wp2
    exact hK
  case body =>
    rintro l pre x W ⟨⟨hF, hL, hbox⟩, hB⟩ hlt
    obtain ⟨i, x, hx⟩ := x
    have HX := Aside0.mk hx
    have HF := Aside0.mk hF
    have HB := Aside0.mk hB
    have HBX := Aside0.mk hbox
    clear hF hB hbox
    have hfw : nat_FromWord.f 60 x = some ⟨(dec10 x.toNat).toArray⟩ := by
      have h := HX.out
      simp only [okLimb, Bool.and_eq_true, decide_eq_true_eq] at h
      have := fromWord_eq x.toNat (by omega) 60 (by omega)
      rwa [Int.toNat_of_nonneg h.1] at this
    have HFW := Aside0.mk hfw
    clear hfw
    have hN : Aside0 ((digL (pre.map (·.2.1))).length ≤ 9000000) := ⟨by
      have := hL.out
      have h2 := congrArg List.length HZ.out
      have h3 := HC.out.2
      rw [List.length_map] at h2
      omega⟩
    have HS : Aside0 (digL ((pre ++ [((i, (⟨x, hx⟩ : { x : Int // okLimb x = true })) : Int × { x : Int // okLimb x = true })]).map (·.2.1)) = digStep (digL (pre.map (·.2.1))) x) := ⟨by rw [List.map_append, List.map_singleton, digL_snoc]⟩
    have HL9 := Aside0.mk (dec10_nine x.toNat (by have h := HX.out; simp only [okLimb, Bool.and_eq_true, decide_eq_true_eq] at h; omega))
    have HDL := digStep_len (digL (pre.map (·.2.1))) x HX.out
    have HD1 := Aside0.mk HDL
    clear HDL
    have hd : 1 ≤ 4 - 1 - 1 := by omega
    generalize hacc : digL (pre.map (·.2.1)) = acc at HF hL hN HS HD1
    clear hacc
    obtain ⟨ds, hds⟩ : ∃ ds, ds = dec10 x.toNat := ⟨_, rfl⟩
    rw [← hds] at HFW HL9
    have HDS := Aside0.mk hds
    clear hds
    by_cases hz : acc = []
    · subst hz
      gi_wp2_with (refine ⟨trivial, ?_⟩; gi_at_call 71; refine (CallsIn.inRound l (callsIn_wide.2 (nat_FromWord.calls 60 _ _ _ HFW.out))).mono ?_; rintro e w1 ⟨rfl, hb1⟩)
      have hF1 := Aside0.mk (bF_below HF.out hb1)
      have HK1 := Aside0.mk ((keeps_below (B := w.heap.size + 1 + 1) hb1))
      have HX1 := Aside0.mk ((hb1.block _ (Array.getElem?_eq_some_iff.1 HBX.out).1).trans HBX.out)
      have HA1 := Aside0.mk ((hb1.mono HB.out.size))
      have HZ1 := Aside0.mk (Nat.le_trans HB.out.size hb1.size)
      clear hb1
      refine ⟨trivial, ?_⟩
      refine (CallsIn.inRound l (callsIn_wide.2 (Tryd.Builder_Len_f _ _ _ _ hF1.out))).mono ?_
      rintro e w2 ⟨rfl, rfl⟩
      gi_wp2_with fail
      refine ⟨trivial, ?_⟩
      refine (CallsIn.inRound l (callsIn_wide.2 (Tryd.Builder_WriteString_k _ _ _ ⟨ds.toArray⟩ _ hF1.out (by have := HL9.out; simp [Lib.byteCells]; show ds.length ≤ _; omega) HZ1.out))).mono ?_
      rintro e w3 ⟨rfl, hF_, hB_, hO_⟩
      have hF2 := Aside0.mk (show Lib.IsBuilderF 140 5 w.heap.size w.heap.size _ _ from .inr hF_)
      have HK2 := Aside0.mk (HK1.out.trans (keeps_others (B := w.heap.size + 1 + 1) (others_size hB_ hO_ (bF_block hF1.out)) (bF_block hF1.out) hO_))
      have HX2 := Aside0.mk (hO_ _ _ HX1.out (by intro e; injection e with e; omega) (by intro c fz e; cases e))
      have HA2 := Aside0.mk (HA1.out.trans hB_)
      have HZ2 := Aside0.mk (Nat.le_trans HZ1.out hB_.size)
      clear hF_ hB_ hO_
      gi_wp2
      refine ⟨by rw [World.size_alloc, World.size_alloc]; exact HK2.out, ⟨HA2.out, HX2.out.trans HBX.out.symm⟩, ⟨?_, ?_, HX2.out⟩, HB.out.trans HA2.out⟩
      · rw [HS.out, show digStep [] x = ds from by rw [HDS.out]; simp [digStep]]
        exact hF2.out
      · refine ⟨?_⟩
        rw [HS.out, List.length_append, List.length_singleton]
        have := HD1.out.1
        have := hL.out
        omega
    · have hz0 : decide (0 < ((Lib.byteCells acc).length : Int)) = true := by
        rw [Lib.byteCells_length]; simp; exact List.length_pos_iff.2 hz
      have hz1 : decide (0 < (Lib.byteCells acc).length) = true := by
        rw [Lib.byteCells_length]; simp; exact List.length_pos_iff.2 hz
      have hw9 : wrap64 (9 - (ds.length : Int)) = ((9 - ds.length : Nat) : Int) := by have := HL9.out; unfold wrap64; omega
      have HW9 := Aside0.mk hw9
      clear hw9
      gi_wp2_with (refine ⟨trivial, ?_⟩; gi_at_call 71; refine (CallsIn.inRound l (callsIn_wide.2 (nat_FromWord.calls 60 _ _ _ HFW.out))).mono ?_; rintro e w1 ⟨rfl, hb1⟩)
      have hF1 := Aside0.mk (bF_below HF.out hb1)
      have HK1 := Aside0.mk ((keeps_below (B := w.heap.size + 1 + 1) hb1))
      have HX1 := Aside0.mk ((hb1.block _ (Array.getElem?_eq_some_iff.1 HBX.out).1).trans HBX.out)
      have HA1 := Aside0.mk ((hb1.mono HB.out.size))
      have HZ1 := Aside0.mk (Nat.le_trans HB.out.size hb1.size)
      clear hb1
      refine ⟨trivial, ?_⟩
      refine (CallsIn.inRound l (callsIn_wide.2 (Tryd.Builder_Len_f _ _ _ _ hF1.out))).mono ?_
      rintro e w2 ⟨rfl, rfl⟩
      gi_wp2_with fail
      refine ⟨trivial, ?_⟩
      rw [HW9.out]
      refine (CallsIn.inRound l (callsIn_wide.2 (Tryd.strings_Repeat ⟨#[48]⟩ (9 - ds.length) _ (by omega) (by show 1 * _ ≤ _; omega)))).mono ?_
      rintro e w3 ⟨rfl, hb2⟩
      have hF2 := Aside0.mk (bF_below hF1.out hb2)
      have HK2 := Aside0.mk (HK1.out.trans (keeps_below (B := w.heap.size + 1 + 1) hb2))
      have HX2 := Aside0.mk ((hb2.block _ (Array.getElem?_eq_some_iff.1 HX1.out).1).trans HX1.out)
      have HA2 := Aside0.mk (HA1.out.trans (hb2.mono HZ1.out))
      have HZ2 := Aside0.mk (Nat.le_trans HZ1.out hb2.size)
      clear hb2
      have hrl : (Lib.repeatL [48] (9 - ds.length)) = List.replicate (9 - ds.length) 48 := by
        generalize 9 - ds.length = q
        induction q with
        | zero => rfl
        | succ q ih => simp only [Lib.repeatL, ih, List.replicate_succ, List.singleton_append]
      have HRL := Aside0.mk hrl
      clear hrl
      gi_wp2_with fail
      refine ⟨trivial, ?_⟩
      refine (CallsIn.inRound l (callsIn_wide.2 (Tryd.Builder_WriteString_k _ _ _ ⟨(Lib.repeatL [48] (9 - ds.length)).toArray⟩ _ hF2.out (by rw [Lib.byteCells_length]; show _ + (Lib.repeatL [48] (9 - ds.length)).toArray.size ≤ _; rw [HRL.out]; simp; have := hN.out; omega) HZ2.out))).mono ?_
      rintro e w4 ⟨rfl, hF_, hB_, hO_⟩
      rw [show Lib.strCells ⟨(Lib.repeatL [48] (9 - ds.length)).toArray⟩ = Lib.byteCells (Lib.repeatL [48] (9 - ds.length)) from rfl, ← Lib.byteCells_append, HRL.out] at hF_
      have hF3 := Aside0.mk (show Lib.IsBuilderF 140 5 w.heap.size w.heap.size _ _ from .inr hF_)
      have HK3 := Aside0.mk (HK2.out.trans (keeps_others (B := w.heap.size + 1 + 1) (others_size hB_ hO_ (bF_block hF2.out)) (bF_block hF2.out) hO_))
      have HX3 := Aside0.mk (hO_ _ _ HX2.out (by intro e; injection e with e; omega) (by intro c fz e; cases e))
      have HA3 := Aside0.mk (HA2.out.trans hB_)
      have HZ3 := Aside0.mk (Nat.le_trans HZ2.out hB_.size)
      clear hF_ hB_ hO_
      gi_wp2_with fail
      refine ⟨trivial, ?_⟩
      refine (CallsIn.inRound l (callsIn_wide.2 (Tryd.Builder_WriteString_k _ _ _ ⟨ds.toArray⟩ _ hF3.out (by rw [Lib.byteCells_length]; show _ + ds.toArray.size ≤ _; simp; have := hN.out; have := HL9.out; omega) HZ3.out))).mono ?_
      rintro e w5 ⟨rfl, hF_, hB_, hO_⟩
      rw [show Lib.strCells ⟨ds.toArray⟩ = Lib.byteCells ds from rfl, ← Lib.byteCells_append] at hF_
      have hF4 := Aside0.mk (show Lib.IsBuilderF 140 5 w.heap.size w.heap.size _ _ from .inr hF_)
      have HK4 := Aside0.mk (HK3.out.trans (keeps_others (B := w.heap.size + 1 + 1) (others_size hB_ hO_ (bF_block hF3.out)) (bF_block hF3.out) hO_))
      have HX4 := Aside0.mk (hO_ _ _ HX3.out (by intro e; injection e with e; omega) (by intro c fz e; cases e))
      have HA4 := Aside0.mk (HA3.out.trans hB_)
      have HZ4 := Aside0.mk (Nat.le_trans HZ3.out hB_.size)
      clear hF_ hB_ hO_
      gi_wp2
      refine ⟨by rw [World.size_alloc, World.size_alloc]; exact HK4.out, ⟨HA4.out, HX4.out.trans HBX.out.symm⟩, ⟨?_, ?_, HX4.out⟩, HB.out.trans HA4.out⟩
      · rw [HS.out, show digStep acc x = acc ++ List.replicate (9 - ds.length) 48 ++ ds from by rw [HDS.out]; simp [digStep, hz]]
        exact hF4.out
      · refine ⟨?_⟩
        rw [HS.out, List.length_append, List.length_singleton]
        have := HD1.out.1
        have := hL.out
        omega
  case done =>
    rintro D ys W hD hys ⟨⟨hF, hL, hbox⟩, hB⟩ hK
    have hys2 : ys.map (·.2.1) = l0.reverse := by
      rw [← HZ.out, ← List.map_reverse, ← hys, List.map_map]
      rfl
    rw [hys2] at hF hL
    have HF := Aside0.mk hF
    have HB := Aside0.mk hB
    have HKD := Aside0.mk hK
    clear hF hB hbox hys hys2 hL hK
    have hlt : D < W.heap.size := (Array.getElem?_eq_some_iff.1 HKD.out).1
    by_cases hz : l0 = []
    · have hr : r = ⟨#[48]⟩ := by have := HR.out; rw [if_pos hz] at this; exact this.symm
      subst hr
      have he : digL l0.reverse = [] := by rw [hz]; rfl
      rw [he] at HF
      clear he
      gi_wp2_with fail
      refine ⟨trivial, ?_⟩
      refine (callsIn_wide.2 (Tryd.Builder_Len_f _ _ _ _ HF.out)).mono ?_
      rintro e w2 ⟨rfl, rfl⟩
      gi_wp2
      refine ⟨by simp, .inl ⟨_, _, rfl, run_takeDeferred HKD.out, ?_⟩⟩
      exact ⟨_, results_tmp rfl _ _ _, rfl, HB.out.trans (belowK_b (w := w) (Nat.le_refl _) w2 D _ _ (by simp at hD; omega) HKD.out rfl rfl)⟩
    · have HQ : Aside0 ((⟨(digL l0.reverse).toArray⟩ : ByteArray) = r) := ⟨by have := HR.out; rw [if_neg hz] at this; exact this⟩
      have hne : digL l0.reverse ≠ [] := by
        have hz' := List.dropLast_concat_getLast (l := l0.reverse) (by simpa using hz)
        rw [← hz', digL_snoc]
        refine (digStep_len _ _ ?_).2
        exact List.all_eq_true.1 HC.out.1 _ (by rw [List.getLast_reverse]; exact List.head_mem _)
      generalize digL l0.reverse = q at HF hne HQ
      have hq0 : (((Lib.byteCells q).length : Int) == 0) = false := by rw [Lib.byteCells_length]; simp; exact hne
      have hq1 : ((Lib.byteCells q).length == 0) = false := by rw [Lib.byteCells_length]; simp; exact hne
      gi_wp2_with fail
      refine ⟨trivial, ?_⟩
      refine (callsIn_wide.2 (Tryd.Builder_Len_f _ _ _ _ HF.out)).mono ?_
      rintro e w2 ⟨rfl, rfl⟩
      gi_wp2_with fail
      refine ⟨trivial, ?_⟩
      refine (callsIn_wide.2 (Tryd.Builder_String_any_k _ _ _ _ HF.out HB.out.size)).mono ?_
      rintro e w3 ⟨rfl, hF_, hB_, hO_⟩
      have HK3 := Aside0.mk (hO_ _ _ HKD.out (by intro e; injection e with e; subst e; simp at hD; omega) (by intro c fz e; cases e))
      have HB3 := Aside0.mk (HB.out.trans hB_)
      clear hF_ hB_ hO_
      gi_wp2
      refine ⟨by simp, .inl ⟨_, _, rfl, run_takeDeferred HK3.out, ?_⟩⟩
      exact ⟨_, results_tmp rfl _ _ _, by show Ending.returned (Value.string ⟨q.toArray⟩) = _; rw [HQ.out], HB3.out.trans (belowK_b (w := w) (Nat.le_refl _) w3 D _ _ (by simp at hD; omega) HK3.out rfl rfl)⟩
  case stop =>
    rintro D c pre W _ _ h _
    exact h.elim
end Go.Proofs.YtfndkpifgmcomaaDoor.XD
