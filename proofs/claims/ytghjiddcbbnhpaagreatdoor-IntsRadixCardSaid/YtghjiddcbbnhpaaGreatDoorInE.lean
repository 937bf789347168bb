/- Plain laws on numbers' texts in a base (strconv.FormatUint, FormatInt): digits, value, length; lists and numbers alone: no statement of the seat is proved here. -/
import Derived.Test.YtghjiddcbbnhpaaGreatDoorInJ
namespace Go.Proofs.YtghjiddcbbnhpaaGreatDoor

/-- A digit as strconv writes it. -/
def digQ (v : Nat) : UInt8 := if v < 10 then UInt8.ofNat (48 + v) else UInt8.ofNat (87 + v)
theorem digQ_val : ∀ v < 16, digV (digQ v) = v := by decide
theorem digQ_low : ∀ v < 16, digQ v ≠ 95 := by decide
/-- A number's text in a base. -/
def fmtQ (q n : Nat) : List UInt8 := if _h : n < q ∨ q < 2 then [digQ n] else fmtQ q (n / q) ++ [digQ (n % q)]
termination_by n
decreasing_by
  have _h1 : q ≤ n := by omega
  exact Nat.div_lt_self (by omega) (by omega)
theorem fmt_small {q n : Nat} (h : n < q) : fmtQ q n = [digQ n] := by rw [fmtQ, dif_pos (.inl h)]
theorem fmt_big {q n : Nat} (hq : 2 ≤ q) (h : q ≤ n) : fmtQ q n = fmtQ q (n / q) ++ [digQ (n % q)] := by rw [fmtQ, dif_neg (by omega)]
theorem fmt_ne (q n : Nat) : fmtQ q n ≠ [] := by rw [fmtQ]; split <;> simp
theorem fmt_dig {q : Nat} (hq : 2 ≤ q) (hq2 : q ≤ 16) (n : Nat) : ∀ c ∈ fmtQ q n, digV c < q := by
  induction n using Nat.strongRecOn with
  | _ n ih =>
    by_cases h : n < q
    · rw [fmt_small h]
      intro c hc
      rw [List.mem_singleton] at hc
      subst hc
      rw [digQ_val n (by omega)]; exact h
    · rw [fmt_big hq (by omega)]
      intro c hc
      rcases List.mem_append.1 hc with hc | hc
      · exact ih (n / q) (Nat.div_lt_self (by omega) (by omega)) c hc
      · rw [List.mem_singleton] at hc
        subst hc
        have := Nat.mod_lt n (show 0 < q by omega)
        rw [digQ_val _ (by omega)]; exact this
theorem fmt_val {q : Nat} (hq : 2 ≤ q) (hq2 : q ≤ 16) (n : Nat) : valQ q 0 (fmtQ q n) = n := by
  induction n using Nat.strongRecOn with
  | _ n ih =>
    by_cases h : n < q
    · rw [fmt_small h, valQ, valQ, digQ_val n (by omega)]; omega
    · rw [fmt_big hq (by omega), valQ_app, ih (n / q) (Nat.div_lt_self (by omega) (by omega)), valQ, valQ]
      have := Nat.mod_lt n (show 0 < q by omega)
      rw [digQ_val _ (by omega), Nat.mul_comm]
      exact Nat.div_add_mod n q
theorem fmt_len {q : Nat} (hq : 2 ≤ q) : ∀ (k n : Nat), n < q ^ (k + 1) → (fmtQ q n).length ≤ k + 1 := by
  intro k
  induction k with
  | zero => intro n h; rw [fmt_small (by simpa using h)]; simp
  | succ k ih =>
    intro n h
    by_cases hn : n < q
    · rw [fmt_small hn]; simp
    · rw [fmt_big hq (by omega), List.length_append]
      have h2 : n / q < q ^ (k + 1) := by
        rw [Nat.div_lt_iff_lt_mul (by omega), ← Nat.pow_succ]; exact h
      have := ih _ h2
      simp; omega
theorem fmt_len64 {q n : Nat} (hq : 2 ≤ q) (h : n < 18446744073709551616) : (fmtQ q n).length ≤ 64 :=
  fmt_len hq 63 n (Nat.lt_of_lt_of_le h (Nat.le_trans (by decide : 18446744073709551616 ≤ 2 ^ 64) (Nat.pow_le_pow_left hq 64)))
theorem fmt_step {q : Nat} (hq : 2 ≤ q) {n : Nat} (h : q ≤ n) {l r : List UInt8} (hl : fmtQ q n ++ l = r) : fmtQ q (n / q) ++ (digQ (n % q) :: l) = r := by
  rw [← hl, fmt_big hq h]; simp
/-- scanning digits alone -/
theorem scan_digs {q : Nat} (hq : q ≤ 16) : ∀ (l : List UInt8) (p : Bool) (n : Nat), (∀ c ∈ l, digV c < q) → scanQ q p l n = some (valQ q n l)
  | [], _, _, _ => rfl
  | c :: l, p, n, h => by
    have hc := h c (by simp)
    rw [scanQ, if_neg (by rintro rfl; have : digV 95 = 255 := by decide
                          omega), if_pos hc, valQ]
    exact scan_digs hq l _ _ fun x hx => h x (by simp [hx])

end Go.Proofs.YtghjiddcbbnhpaaGreatDoor
