/- Plain: how long words of a pattern are; two steps the same; no statement of the seat is proved here. -/
import Derived.Test.YtjnedbkbhoiopaaDoorPtRE
namespace Go.Proofs.YtjnedbkbhoiopaaDoor
open Go.RowKit

def okW (l : List UInt8) (p : Pat) : Prop := (txtR p).length ≤ l.length ∧ (idsR p).length ≤ l.length
theorem word_len {l : List UInt8} {i : Nat} {o : List UInt8} {n : Nat} {b : Option Nat} (h : wordL (l.drop i) = (o, n, b)) : o.length ≤ l.length := by
  have := wordL_le (l.drop i).length (l.drop i) (Nat.le_refl _)
  rw [h] at this
  have h2 := this.2.1
  have h1 := this.1
  rw [List.length_drop] at h1
  dsimp only at h1 h2
  omega
theorem keyed_words {l : List UInt8} {i : Nat} {x : Pat × Nat} (h : keyedL l i = .ok x) : okW l x.1 := by
  unfold keyedL at h
  split at h
  · split at h
    · cases h; exact ⟨Nat.zero_le _, Nat.zero_le _⟩
    · cases h; exact ⟨Nat.zero_le _, Nat.zero_le _⟩
  · split at h
    · rename_i o n e
      cases h; exact ⟨word_len e, Nat.zero_le _⟩
    · cases h
theorem closed_words {l : List UInt8} {p : Pat} {i : Nat} {x : Pat × Nat} (h : closedL l p i = .ok x) : x.1 = p := by
  unfold closedL at h
  split at h
  · cases h; rfl
  · cases h
theorem listed_words {l : List UInt8} {i : Nat} {x : Pat × Nat} (h : listedL l i = .ok x) : okW l x.1 := by
  unfold listedL at h
  split at h
  · rw [closed_words h]; exact ⟨Nat.zero_le _, Nat.zero_le _⟩
  · split at h
    · cases h
    · rename_i o n e
      split at h
      · split at h
        · rw [closed_words h]; exact ⟨word_len e, Nat.zero_le _⟩
        · split at h
          · cases h
          · rename_i v m e2
            rw [closed_words h]; exact ⟨word_len e, word_len e2⟩
      · cases h
theorem steps_words {l : List UInt8} : ∀ (fuel i : Nat) (ps qs : List Pat), stepsL l fuel i ps = .ok qs → (∀ p ∈ ps, okW l p) → ∀ p ∈ qs, okW l p
  | 0, i, ps, qs, h, hp => by rw [stepsL] at h; cases h; exact hp
  | fuel + 1, i, ps, qs, h, hp => by
    have snoc : ∀ (x : Pat), okW l x → ∀ p ∈ ps ++ [x], okW l p := by
      intro x hx p hm
      rw [List.mem_append, List.mem_singleton] at hm
      rcases hm with hm | rfl
      · exact hp p hm
      · exact hx
    rw [stepsL] at h
    split at h
    · split at h
      · cases h
      · split at h
        · split at h
          · cases h
          · rename_i p e he
            exact steps_words fuel _ _ _ h (snoc p (keyed_words he))
        · split at h
          · split at h
            · cases h
            · rename_i p e he
              exact steps_words fuel _ _ _ h (snoc p (listed_words he))
          · cases h
    · cases h; exact hp
theorem parse_words {l : List UInt8} {ps : List Pat} (h : parseL l = .ok ps) : ∀ p ∈ ps, okW l p := by
  unfold parseL at h
  split at h
  · cases h; simp
  · split at h
    · cases h
    · exact steps_words _ _ _ _ h (by simp)
theorem pat_text_len {l : List UInt8} {p : Pat} (h : okW l p) (hl : l.length ≤ 2000) : p.text.length ≤ 20000 := by
  obtain ⟨h1, h2⟩ := h
  cases p with
  | key w => have := spell_lenU w; simp only [Pat.text, txtR, List.length_cons] at *; omega
  | anyKey => simp [Pat.text]
  | stars => simp [Pat.text]
  | anyAt => simp [Pat.text]
  | id f v => have := spell_lenU f; have := spell_lenU v; simp only [Pat.text, txtR, idsR, List.length_cons, List.length_append, List.length_nil] at *; omega
  | anyId f => have := spell_lenU f; simp only [Pat.text, txtR, List.length_cons, List.length_append, List.length_nil] at *; omega
theorem texts_len : ∀ (ps : List Pat), (∀ p ∈ ps, p.text.length ≤ 20000) → (ps.flatMap Pat.text).length ≤ 20000 * ps.length
  | [], _ => by simp
  | p :: ps, h => by
    have a := texts_len ps (fun q hq => h q (List.mem_cons_of_mem _ hq))
    have b := h p (List.mem_cons_self ..)
    show (p.text ++ ps.flatMap Pat.text).length ≤ _
    rw [List.length_append, List.length_cons]; omega
set_option maxHeartbeats 1000000 in
theorem step_same (k : UInt8) (t d : ByteArray) (a : Int) (W : World) : (Op.equalIn 10000 50 (.agg #[.int .u8 (k.toNat : Int), .string t, .string d, .int .i64 a]) (.agg #[.int .u8 (k.toNat : Int), .string t, .string d, .int .i64 a])).run Tryd.prog W = .ok true W := by
  go_simp

end Go.Proofs.YtjnedbkbhoiopaaDoor
