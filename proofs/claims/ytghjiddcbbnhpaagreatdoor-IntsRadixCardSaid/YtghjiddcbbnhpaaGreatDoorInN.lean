/- Plain laws: texts of values that are too great; lists and numbers alone: no statement of the seat is proved here. -/
import Derived.Test.YtghjiddcbbnhpaaGreatDoorInE
import Derived.Laws.Bits64b
namespace Go.Proofs.YtghjiddcbbnhpaaGreatDoor

theorem way_at16 (l : List UInt8) : wayI (48 :: 120 :: l) = (16, false, l) := by
  unfold wayI; rw [if_pos (show (48 :: 120 :: l).take 2 = [48, 120] by simp)]; rfl
theorem way_at8 (l : List UInt8) : wayI (48 :: 111 :: l) = (8, false, l) := by
  unfold wayI; rw [if_neg (show ¬ (48 :: 111 :: l).take 2 = [48, 120] by simp), if_pos (show (48 :: 111 :: l).take 2 = [48, 111] by simp)]; rfl
theorem way_at2 (l : List UInt8) : wayI (48 :: 98 :: l) = (2, false, l) := by
  unfold wayI; rw [if_neg (show ¬ (48 :: 98 :: l).take 2 = [48, 120] by simp), if_neg (show ¬ (48 :: 98 :: l).take 2 = [48, 111] by simp), if_pos (show (48 :: 98 :: l).take 2 = [48, 98] by simp)]; rfl
theorem bad_no {q : Nat} {l : List UInt8} (h : l ≠ []) (h10 : q ≠ 10) : badB q l = false := decide_eq_false fun e => e.elim h fun e => h10 e.1
theorem far_radix {q : Nat} {l r : List UInt8} (hw : wayI l = (q, false, r)) (hq : q ≤ 16) (h10 : q ≠ 10) (hd : ∀ c ∈ r, digV c < q) (hv : 9223372036854775807 < valQ q 0 r) : readI l = ([], 8) :=
  read_far hw (bad_no (fun e => by rw [e] at hv; cases hv) h10) (scan_digs hq r false 0 hd) hv
theorem far_dec {l r : List UInt8} {m : Bool} (hw : wayI l = (10, m, r)) (hd : ∀ c ∈ r, dgB c = true) (hh : r.head? ≠ some 48) (hv : limI m < natV 0 r) : readI l = ([], 8) :=
  read_far hw (decide_eq_false fun e => e.elim (fun e => by rw [e] at hv; cases hv) fun e => hh e.2.2) (scan_dg r false 0 hd) hv
theorem val_tail {q : Nat} (hq : 1 ≤ q) (a b : List UInt8) : valQ q 0 a ≤ valQ q 0 (a ++ b) := by rw [valQ_app]; exact valQ_le hq b _
theorem val_zeros (q k : Nat) (l : List UInt8) : valQ q 0 (List.replicate k 48 ++ l) = valQ q 0 l := by
  induction k with
  | zero => rfl
  | succ k ih => rw [List.replicate_succ, List.cons_append, valQ, show digV 48 = 0 by decide, Nat.zero_mul, Nat.zero_add]; exact ih
theorem dig_rep {q : Nat} (hq : 2 ≤ q) (k : Nat) : ∀ c ∈ List.replicate k (48 : UInt8), digV c < q := fun c hc => by
  rw [(List.mem_replicate.1 hc).2, show digV 48 = 0 by decide]; omega
theorem dg_rep (k : Nat) : ∀ c ∈ List.replicate k (48 : UInt8), dgB c = true := fun c hc => by rw [(List.mem_replicate.1 hc).2]; rfl
theorem app_all {p : UInt8 → Prop} {a b : List UInt8} (ha : ∀ c ∈ a, p c) (hb : ∀ c ∈ b, p c) : ∀ c ∈ a ++ b, p c := fun c hc => (List.mem_append.1 hc).elim (ha c) (hb c)
theorem dec_app_head {n : Nat} (h : 0 < n) (l : List UInt8) : (Lib.decDigits n ++ l).head? ≠ some 48 := by
  have h1 := dec_head h
  cases e : Lib.decDigits n with
  | nil => exact absurd e (dec_ne n)
  | cons c r => rw [e] at h1; exact h1
theorem nat_tail (a b : List UInt8) : natV 0 a ≤ natV 0 (a ++ b) := by rw [natV_app]; exact natV_le b _
/-- The seven texts that are too great. -/
theorem far_16 (n k : Nat) (h : 9223372036854775808 ≤ n) : readI (48 :: 120 :: (fmtQ 16 n ++ List.replicate k 48)) = ([], 8) :=
  far_radix (way_at16 _) (by omega) (by omega) (app_all (fmt_dig (by omega) (by omega) n) (dig_rep (by omega) k)) (by have := val_tail (q := 16) (by omega) (fmtQ 16 n) (List.replicate k 48); rw [fmt_val (by omega) (by omega)] at this; omega)
theorem far_8 (n k : Nat) (h : 9223372036854775808 ≤ n) : readI (48 :: 111 :: (fmtQ 8 n ++ List.replicate k 48)) = ([], 8) :=
  far_radix (way_at8 _) (by omega) (by omega) (app_all (fmt_dig (by omega) (by omega) n) (dig_rep (by omega) k)) (by have := val_tail (q := 8) (by omega) (fmtQ 8 n) (List.replicate k 48); rw [fmt_val (by omega) (by omega)] at this; omega)
theorem far_2 (n k : Nat) (h : 9223372036854775808 ≤ n) : readI (48 :: 98 :: (fmtQ 2 n ++ List.replicate k 48)) = ([], 8) :=
  far_radix (way_at2 _) (by omega) (by omega) (app_all (fmt_dig (by omega) (by omega) n) (dig_rep (by omega) k)) (by have := val_tail (q := 2) (by omega) (fmtQ 2 n) (List.replicate k 48); rw [fmt_val (by omega) (by omega)] at this; omega)
theorem far_z (n : Nat) (h : 9223372036854775808 ≤ n) : readI (48 :: 120 :: (List.replicate 21 48 ++ fmtQ 16 n)) = ([], 8) :=
  far_radix (way_at16 _) (by omega) (by omega) (app_all (dig_rep (by omega) 21) (fmt_dig (by omega) (by omega) n)) (by rw [val_zeros, fmt_val (by omega) (by omega)]; omega)
theorem far_d (n k : Nat) (h : 9223372036854775808 ≤ n) : readI (Lib.decDigits n ++ List.replicate k 48) = ([], 8) := by
  have hd := app_all (dec_dg n) (dg_rep k)
  refine far_dec (m := false) (r := Lib.decDigits n ++ List.replicate k 48) ?_ hd (dec_app_head (by omega) _) (by have := nat_tail (Lib.decDigits n) (List.replicate k 48); rw [natV_dec] at this; show 9223372036854775807 < _; omega)
  cases e : Lib.decDigits n ++ List.replicate k 48 with
  | nil => exact absurd (List.append_eq_nil_iff.1 e).1 (dec_ne n)
  | cons c l => rw [e] at hd; exact way_dg (hd c (by simp)) fun x hx => hd x (by simp [hx])
theorem far_p (n k : Nat) (h : 9223372036854775808 ≤ n) : readI (43 :: (Lib.decDigits n ++ List.replicate k 48)) = ([], 8) :=
  far_dec (way_plus _) (app_all (dec_dg n) (dg_rep k)) (dec_app_head (by omega) _) (by have := nat_tail (Lib.decDigits n) (List.replicate k 48); rw [natV_dec] at this; show 9223372036854775807 < _; omega)
theorem far_m (n k : Nat) (h : 9223372036854775808 < n) : readI (45 :: (Lib.decDigits n ++ List.replicate k 48)) = ([], 8) :=
  far_dec (way_minus _) (app_all (dec_dg n) (dg_rep k)) (dec_app_head (by omega) _) (by have := nat_tail (Lib.decDigits n) (List.replicate k 48); rw [natV_dec] at this; show 9223372036854775808 < _; omega)
theorem or_top (n : Nat) (h : n < 18446744073709551616) : ∃ v : Nat, bits .or .u64 (n : Int) 9223372036854775808 = (v : Int) ∧ 9223372036854775808 ≤ v ∧ v < 18446744073709551616 :=
  ⟨n ||| 9223372036854775808, bits_or_u64_nat n 9223372036854775808 h (by omega), Nat.right_le_or, Nat.or_lt_two_pow (n := 64) (by omega) (by omega)⟩
theorem most_7 : readI [57, 50, 50, 51, 51, 55, 50, 48, 51, 54, 56, 53, 52, 55, 55, 53, 56, 48, 55] = ([57, 50, 50, 51, 51, 55, 50, 48, 51, 54, 56, 53, 52, 55, 55, 53, 56, 48, 55], 0) := by
  have := read_itoa (z := 9223372036854775807) (by unfold I64; omega)
  rw [itoa_pos (by omega)] at this
  rw [show (9223372036854775807 : Int).natAbs = 9223372036854775807 from rfl, lim7] at this
  exact this
theorem least_8 : readI [45, 57, 50, 50, 51, 51, 55, 50, 48, 51, 54, 56, 53, 52, 55, 55, 53, 56, 48, 56] = ([45, 57, 50, 50, 51, 51, 55, 50, 48, 51, 54, 56, 53, 52, 55, 55, 53, 56, 48, 56], 0) := by
  have := read_itoa (z := -9223372036854775808) (by unfold I64; omega)
  rw [itoa_neg (by omega)] at this
  rw [show (-9223372036854775808 : Int).natAbs = 9223372036854775808 from rfl, lim8] at this
  exact this
theorem most_x : readI [48, 120, 55, 102, 102, 102, 102, 102, 102, 102, 102, 102, 102, 102, 102, 102, 102, 102] = ([57, 50, 50, 51, 51, 55, 50, 48, 51, 54, 56, 53, 52, 55, 55, 53, 56, 48, 55], 0) :=
  read_lit (n := 9223372036854775807) (m := false) (q := 16) (r := [55, 102, 102, 102, 102, 102, 102, 102, 102, 102, 102, 102, 102, 102, 102, 102]) (by decide) (by decide) (by decide +kernel) (by decide) (by rw [show signI false 9223372036854775807 = ((9223372036854775807 : Nat) : Int) from rfl, itoa_nat, lim7])

end Go.Proofs.YtghjiddcbbnhpaaGreatDoor
