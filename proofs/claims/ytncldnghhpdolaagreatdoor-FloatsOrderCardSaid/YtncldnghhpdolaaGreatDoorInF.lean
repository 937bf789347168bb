/- strconv.ParseInt at a sign and digits of a base; strings.ReplaceAll of low marks; no statement of the seat is proved here. -/
import Derived.Test.YtncldnghhpdolaaGreatDoorInZ
namespace Go.Proofs.YtncldnghhpdolaaGreatDoor
open Go.RowKit

theorem ipu_any {q : Nat} (hq : Base4 q) (s : ByteArray) (h1 : 1 ≤ s.size) (h8 : s.size ≤ 100000) (w : World) :
    Calls Tryz.prog 104 #[.string s, .int .i64 (q : Int), .int .i64 64] w fun e w' => e = puE (puL q s.data.toList 0) ∧ Below w.heap.size w w' := by
  rcases hq with rfl | rfl | rfl | rfl
  · exact ipu_2 s h1 h8 _ rfl w
  · exact ipu_8 s h1 h8 _ rfl w
  · exact ipu_10 s h1 h8 _ rfl w
  · exact ipu_16 s h1 h8 _ rfl w
theorem dig_sign {q : Nat} (hq : q ≤ 16) {c : UInt8} (h : digV c < q) : c.toNat ≠ 43 ∧ c.toNat ≠ 45 := by
  constructor
  · intro e
    have : c = 43 := UInt8.toNat_inj.1 e
    subst this
    have : digV 43 = 255 := by decide
    omega
  · intro e
    have : c = 45 := UInt8.toNat_inj.1 e
    subst this
    have : digV 45 = 255 := by decide
    omega
/-- What ParseInt answers at a minus or none, and a value. -/
def outP (m : Bool) (v : Nat) : PI := if limI m < v then .rng (if m then -9223372036854775808 else 9223372036854775807) else .ok (signI m v)
theorem piP_val (v : Nat) : piP (if 18446744073709551616 ≤ v then .rng else .ok v) = outP false v := by
  unfold outP limI signI
  by_cases h : 18446744073709551616 ≤ v
  · rw [if_pos h, piP, if_pos (by simp; omega)]; rfl
  · rw [if_neg h, piP]
    by_cases h2 : 9223372036854775808 ≤ v
    · rw [if_pos h2, if_pos (by simp; omega)]; rfl
    · rw [if_neg h2, if_neg (by simp; omega)]; rfl
theorem piN_val (v : Nat) : piN (if 18446744073709551616 ≤ v then .rng else .ok v) = outP true v := by
  unfold outP limI signI
  by_cases h : 18446744073709551616 ≤ v
  · rw [if_pos h, piN, if_pos (by simp; omega)]; rfl
  · rw [if_neg h, piN]
    by_cases h2 : 9223372036854775808 < v
    · rw [if_pos h2, if_pos (by simp; omega)]; rfl
    · rw [if_neg h2, if_neg (by simp; omega)]; rfl
theorem ext1 {T D : ByteArray} {c : UInt8} (h : T.data.toList = c :: D.data.toList) : T.extract 1 T.size = D := by
  apply str_eq
  have h2 : T.size = D.size + 1 := by rw [← size_list, h, List.length_cons, size_list]
  rw [ByteArray.data_extract, Array.toList_extract, h]
  simp only [List.extract_eq_take_drop, List.drop_succ_cons, List.drop_zero]
  rw [List.take_of_length_le (by rw [size_list]; omega)]
theorem get0 {T : ByteArray} {c : UInt8} {l : List UInt8} (h : T.data.toList = c :: l) (h0 : 0 < T.size) : T[0] = c := by
  have : T.data.toList[0]'(by rw [h]; simp) = c := by simp [h]
  exact this
theorem lt_ok {q : Nat} {l : List UInt8} : ∀ m, puL q l 0 = .ok m → m < 18446744073709551616 := fun m h => puL_lt _ _ m (by omega) h
/-- The text that is parsed: a sign and digits. -/
structure Signed (q : Nat) (m : Bool) (T D : ByteArray) : Prop where
  base : Base4 q
  txt : (T.data.toList = D.data.toList ∧ m = false) ∨ (T.data.toList = 43 :: D.data.toList ∧ m = false) ∨ (T.data.toList = 45 :: D.data.toList ∧ m = true)
  ne : D.data.toList ≠ []
  dig : ∀ c ∈ D.data.toList, digV c < q
  small : T.size ≤ 100000
theorem ipi_is {q : Nat} {m : Bool} {T D : ByteArray} (h : Signed q m T D) (w : World) :
    Calls Tryz.prog 74 #[.string T, .int .i64 (q : Int), .int .i64 64] w fun e w' => e = piE (outP m (valQ q 0 D.data.toList)) ∧ Below w.heap.size w w' := by
  have hq16 : 1 ≤ q ∧ q ≤ 16 := by have := h.base; unfold Base4 at this; omega
  have hv := puL_val hq16.1 D.data.toList 0 (by omega) h.dig
  have hD : 1 ≤ D.size := List.length_pos_iff.2 h.ne
  have hs := h.small
  rcases h.txt with ⟨e, rfl⟩ | ⟨e, rfl⟩ | ⟨e, rfl⟩
  · have : T = D := str_eq e
    subst this
    cases hl : T.data.toList with
    | nil => exact absurd hl h.ne
    | cons c l =>
      have h0 := get0 hl (by omega)
      have hc := dig_sign hq16.2 (h.dig c (by rw [hl]; simp))
      have := ipi_none (q : Int) T (by omega) hs (by rw [h0]; exact hc.1) (by rw [h0]; exact hc.2) _ (lt_ok (q := q) (l := T.data.toList)) (fun w => ipu_any h.base T hD hs w) w
      rw [hv, piP_val, hl] at this
      exact this
  · have hz : T.size = D.size + 1 := by rw [← size_list, e, List.length_cons, size_list]
    have h0 := get0 e (by omega)
    have := ipi_plus (q : Int) T (by omega) hs (by rw [h0]; rfl) _ (lt_ok (q := q) (l := D.data.toList)) (fun w => by rw [ext1 e]; exact ipu_any h.base D hD (by omega) w) w
    rw [hv, piP_val] at this
    exact this
  · have hz : T.size = D.size + 1 := by rw [← size_list, e, List.length_cons, size_list]
    have h0 := get0 e (by omega)
    have := ipi_minus (q : Int) T (by omega) hs (by rw [h0]; rfl) _ (lt_ok (q := q) (l := D.data.toList)) (fun w => by rw [ext1 e]; exact ipu_any h.base D hD (by omega) w) w
    rw [hv, piN_val] at this
    exact this
theorem pint_ok {q : Nat} {m : Bool} {T D : ByteArray} (h : Signed q m T D) (hv : ¬ limI m < valQ q 0 D.data.toList) (w : World) :
    Calls Tryz.prog 46 #[.string T, .int .i64 (q : Int), .int .i64 64] w fun e w' => e = .returned (.tuple #[.int .i64 (signI m (valQ q 0 D.data.toList)), .nilIface]) ∧ Below w.heap.size w w' :=
  spi_ok _ _ _ (fun w => by have := ipi_is h w; rw [outP, if_neg hv] at this; exact this) w
theorem pint_rng {q : Nat} {m : Bool} {T D : ByteArray} (h : Signed q m T D) (hv : limI m < valQ q 0 D.data.toList) (w : World) (b : Addr) (hG : Gl w) (hb : w.cell? ⟨0, 0, none⟩ = some (.iface 159 (.pointer (some b)))) :
    Calls Tryz.prog 46 #[.string T, .int .i64 (q : Int), .int .i64 64] w fun e w' => (∃ z N, e = .returned (.tuple #[.int .i64 z, .iface 120 (.pointer (some ⟨N, 0, none⟩))]) ∧ w'.cell? ⟨N, 2, none⟩ = some (.iface 159 (.pointer (some b)))) ∧ Below w.heap.size w w' := by
  have hs := h.small
  have hG1 := hG.big
  refine (spi_rng _ _ _ _ (fun w => by have := ipi_is h w; rw [outP, if_pos hv] at this; exact this) w (by omega) (by omega) hb (.inr ⟨_, _, rfl⟩)).mono ?_
  rintro e w' ⟨fn, N, rfl, _, h2, h3⟩
  exact ⟨⟨_, N, rfl, (cell_of h2 rfl).1⟩, h3⟩
theorem rep_is (s t : ByteArray) (hs : s.size ≤ 100000) (ht : t.data.toList = lowless s.data.toList) (w : World) (hG : Gl w) :
    Calls Tryz.prog 33 #[.string s, .string ⟨#[95]⟩, .string ⟨#[]⟩] w fun e w' => e = .returned (.string t) ∧ Below w.heap.size w w' := by
  obtain ⟨m, hm⟩ := hG.max
  refine (Tryz.strings_ReplaceAll s ⟨#[95]⟩ ⟨#[]⟩ m w (by omega) hm (by decide) (by rw [show (⟨#[]⟩ : ByteArray).size = 0 from rfl, Nat.mul_zero]; omega)).mono ?_
  rintro e w' ⟨rfl, hb⟩
  refine ⟨?_, hb⟩
  have : (⟨(Lib.replaceAll s.data.toList [95] []).toArray⟩ : ByteArray) = t := str_eq (by rw [ht, replace_low])
  rw [← this]
theorem lowless_ne {dg l : List UInt8} (h : rightB dg l = true) : lowless l ≠ [] := by
  cases l with
  | nil => rw [right_nil] at h; cases h
  | cons c r =>
    by_cases hc : c = 95
    · subst hc
      unfold rightB at h
      rw [spl, if_pos rfl, List.all_cons] at h
      simp [partB] at h
    · unfold lowless; rw [List.filter_cons_of_pos (by simpa using hc)]; simp
theorem digB_list {q : Nat} (hq : Base4 q) : (digB q).data.toList = dgs q := by rcases hq with rfl | rfl | rfl | rfl <;> rfl
theorem rgt_is {q : Nat} (hq : Base4 q) (s : ByteArray) (hs : s.size ≤ 1000000) (w : World) :
    Calls Tryz.prog 45 #[.agg #[.string (begB q), .int .i64 (q : Int), .string (digB q)], .string s] w fun e w' => e = .returned (.bool (rightB (dgs q) s.data.toList)) ∧ Below w.heap.size w w' := by
  have h := right_is (begB q) (digB q) s (q : Int) hs (by rcases hq with rfl | rfl | rfl | rfl <;> decide) (by rcases hq with rfl | rfl | rfl | rfl <;> exact ascii_of_all (by decide)) w
  rw [digB_list hq] at h
  exact h
set_option maxRecDepth 1000000 in
theorem eq_ten {q : Nat} (hq : Base4 q) (w : World) : (binOp .eql 55 (.agg #[.string (begB q), .int .i64 (q : Int), .string (digB q)]) (.agg #[.string (begB 10), .int .i64 10, .string (digB 10)])).run Tryz.prog w = .ok (.bool (decide (q = 10))) w := by
  rcases hq with rfl | rfl | rfl | rfl <;> kernel_rfl

end Go.Proofs.YtncldnghhpdolaaGreatDoor
