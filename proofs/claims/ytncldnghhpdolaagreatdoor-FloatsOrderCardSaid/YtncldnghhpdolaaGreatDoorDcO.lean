/- Plain laws on the order of decimals; lists and numbers alone: no statement of the seat is proved here. -/
import Derived.Test.YtncldnghhpdolaaGreatDoorDcN
import Derived.Lib.ItoaLen
namespace Go.Proofs.YtncldnghhpdolaaGreatDoor

theorem u8_lt {a b : UInt8} : a < b ↔ a.toNat < b.toNat := UInt8.lt_iff_toNat_lt
theorem cb_neg : ∀ a b : List UInt8, Lib.compareBytes a b = - Lib.compareBytes b a
  | [], [] => rfl
  | [], _ :: _ => rfl
  | _ :: _, [] => rfl
  | a :: l, b :: k => by
    have := cb_neg l k
    have h1 := @u8_lt a b
    have h2 := @u8_lt b a
    unfold Lib.compareBytes
    by_cases h : a < b
    · rw [if_pos h, if_neg (show ¬ b < a by rw [h2]; rw [h1] at h; omega), if_pos h]
    · rw [if_neg h]
      by_cases h' : b < a
      · rw [if_pos h', if_pos h']; rfl
      · rw [if_neg h', if_neg h', if_neg h]; exact this
theorem cb_zero : ∀ {a b : List UInt8}, Lib.compareBytes a b = 0 → a = b
  | [], [], _ => rfl
  | [], _ :: _, h => by simp [Lib.compareBytes] at h
  | _ :: _, [], h => by simp [Lib.compareBytes] at h
  | a :: l, b :: k, h => by
    have h1 := @u8_lt a b
    have h2 := @u8_lt b a
    unfold Lib.compareBytes at h
    split at h
    · simp at h
    · split at h
      · simp at h
      · rw [cb_zero h, UInt8.toNat_inj.1 (show a.toNat = b.toNat by simp_all; omega)]
theorem cb_self (a : List UInt8) : Lib.compareBytes a a = 0 := by have := cb_neg a a; omega
theorem cb_trans : ∀ {a b c : List UInt8}, Lib.compareBytes a b < 0 → Lib.compareBytes b c < 0 → Lib.compareBytes a c < 0
  | [], [], _, h, _ => by simp [Lib.compareBytes] at h
  | [], _ :: _, [], _, h => by simp [Lib.compareBytes] at h
  | [], _ :: _, _ :: _, _, _ => by simp [Lib.compareBytes]
  | _ :: _, [], _, h, _ => by simp [Lib.compareBytes] at h
  | _ :: _, _ :: _, [], _, h => by simp [Lib.compareBytes] at h
  | a :: l, b :: k, c :: m, h, h' => by
    have e1 := @u8_lt a b
    have e2 := @u8_lt b a
    have e3 := @u8_lt b c
    have e4 := @u8_lt c b
    have e5 := @u8_lt a c
    have e6 := @u8_lt c a
    unfold Lib.compareBytes at h h' ⊢
    by_cases g1 : a < b
    · by_cases g2 : b < c
      · rw [if_pos (show a < c by rw [e5]; rw [e1] at g1; rw [e3] at g2; omega)]; decide
      · rw [if_neg g2] at h'
        split at h'
        · simp at h'
        · rename_i g3
          rw [if_pos (show a < c by rw [e5]; rw [e1] at g1; rw [e3] at g2; rw [e4] at g3; omega)]; decide
    · rw [if_neg g1] at h
      split at h
      · simp at h
      · rename_i g3
        by_cases g2 : b < c
        · rw [if_pos (show a < c by rw [e5]; rw [e1] at g1; rw [e2] at g3; rw [e3] at g2; omega)]; decide
        · rw [if_neg g2] at h'
          split at h'
          · simp at h'
          · rename_i g4
            rw [if_neg (show ¬ a < c by rw [e5]; rw [e1] at g1; rw [e2] at g3; rw [e3] at g2; rw [e4] at g4; omega),
              if_neg (show ¬ c < a by rw [e6]; rw [e1] at g1; rw [e2] at g3; rw [e3] at g2; rw [e4] at g4; omega)]
            exact cb_trans h h'

/-- The place of a decimal's first digit. -/
def Dm.top (d : Dm) : Int := d.digits.length + d.exp
theorem sz_eq (a b : Dm) : sizeD a b = if a.top < b.top then -1 else if b.top < a.top then 1 else Lib.compareBytes a.digits b.digits := by
  unfold sizeD Lib.compareInt
  show (if (if a.top < b.top then (-1 : Int) else if a.top > b.top then 1 else 0) = 0 then _ else (if a.top < b.top then (-1 : Int) else if a.top > b.top then 1 else 0)) = _
  by_cases h1 : a.top < b.top
  · simp [h1]
  · by_cases h2 : b.top < a.top
    · simp [h1, h2]
    · simp [h1, h2]
theorem sz_neg (a b : Dm) : sizeD a b = - sizeD b a := by
  rw [sz_eq, sz_eq]
  by_cases h1 : a.top < b.top
  · rw [if_pos h1, if_neg (show ¬ b.top < a.top by omega), if_pos h1]
  · rw [if_neg h1]
    by_cases h2 : b.top < a.top
    · rw [if_pos h2, if_pos h2]; rfl
    · rw [if_neg h2, if_neg h2, if_neg h1]; exact cb_neg _ _
theorem sz_zero {a b : Dm} (h : sizeD a b = 0) : a.digits = b.digits ∧ a.exp = b.exp := by
  rw [sz_eq] at h
  split at h
  · simp at h
  · split at h
    · simp at h
    · have e := cb_zero h
      refine ⟨e, ?_⟩
      rename_i g1 g2
      unfold Dm.top at g1 g2
      rw [e] at g1 g2
      omega
theorem sz_trans {a b c : Dm} (h : sizeD a b < 0) (h' : sizeD b c < 0) : sizeD a c < 0 := by
  rw [sz_eq] at h h' ⊢
  by_cases g1 : a.top < b.top
  · by_cases g2 : b.top < c.top
    · rw [if_pos (by omega)]; decide
    · rw [if_neg g2] at h'
      split at h'
      · simp at h'
      · rw [if_pos (by omega)]; decide
  · rw [if_neg g1] at h
    split at h
    · simp at h
    · by_cases g2 : b.top < c.top
      · rw [if_pos (by omega)]; decide
      · rw [if_neg g2] at h'
        split at h'
        · simp at h'
        · rw [if_neg (by omega), if_neg (by omega)]; exact cb_trans h h'
theorem sg_cases (d : Dm) : (d.sg = 0 ∧ d.digits = [48]) ∨ (d.sg = -1 ∧ d.minus = true ∧ d.digits ≠ [48]) ∨ (d.sg = 1 ∧ d.minus = false ∧ d.digits ≠ [48]) := by
  unfold Dm.sg
  by_cases h : d.digits = [48]
  · rw [if_pos h]; exact .inl ⟨rfl, h⟩
  · rw [if_neg h]
    cases d.minus
    · exact .inr (.inr ⟨rfl, rfl, h⟩)
    · exact .inr (.inl ⟨rfl, rfl, h⟩)
theorem norm_zero {d : Dm} (h : Norm d) (hd : d.digits = [48]) : d = .zero := by
  rcases h.hd with e | e
  · exact e
  · rw [hd] at e; simp at e
theorem less_iff (a b : Dm) : lessD a b = true ↔ (a.sg < b.sg ∨ (a.sg = b.sg ∧ a.sg * sizeD a b < 0)) := by
  unfold lessD
  by_cases h : a.sg = b.sg
  · rw [if_pos h, decide_eq_true_iff]
    constructor
    · intro q; exact .inr ⟨h, q⟩
    · rintro (q | q)
      · omega
      · exact q.2
  · rw [if_neg h, decide_eq_true_iff]
    constructor
    · intro q; exact .inl q
    · rintro (q | q)
      · exact q
      · exact absurd q.1 h
theorem less_pos {a b : Dm} (ha : a.sg = 1) (hb : b.sg = 1) : lessD a b = true ↔ sizeD a b < 0 := by rw [less_iff, ha, hb]; omega
theorem less_neg {a b : Dm} (ha : a.sg = -1) (hb : b.sg = -1) : lessD a b = true ↔ sizeD b a < 0 := by
  have := sz_neg a b
  rw [less_iff, ha, hb]; omega
theorem less_sg {a b : Dm} (h : lessD a b = true) : a.sg ≤ b.sg := by
  rcases (less_iff a b).1 h with q | q
  · omega
  · omega
theorem less_self (a : Dm) : lessD a a = false := by
  cases h : lessD a a
  · rfl
  · exfalso
    have h0 := sz_neg a a
    rcases (less_iff a a).1 h with q | ⟨_, q⟩
    · omega
    · rw [show sizeD a a = 0 by omega] at q; simp at q
theorem less_asym {a b : Dm} (h : lessD a b = true) (h' : lessD b a = true) : False := by
  have h1 := less_sg h
  have h2 := less_sg h'
  have h0 := sz_neg a b
  rcases sg_cases a with ⟨s, _⟩ | ⟨s, _⟩ | ⟨s, _⟩
  · rcases (less_iff a b).1 h with q | ⟨_, q⟩
    · omega
    · rw [s] at q; simp at q
  · have s' : b.sg = -1 := by omega
    have := (less_neg s s').1 h
    have := (less_neg s' s).1 h'
    omega
  · have s' : b.sg = 1 := by omega
    have := (less_pos s s').1 h
    have := (less_pos s' s).1 h'
    omega
theorem less_trans {a b c : Dm} (h : lessD a b = true) (h' : lessD b c = true) : lessD a c = true := by
  have h1 := less_sg h
  have h2 := less_sg h'
  by_cases g : a.sg < c.sg
  · exact (less_iff a c).2 (.inl g)
  · rcases sg_cases a with ⟨s, _⟩ | ⟨s, _⟩ | ⟨s, _⟩
    · rcases (less_iff a b).1 h with q | ⟨_, q⟩
      · omega
      · rw [s] at q; simp at q
    · have s' : b.sg = -1 := by omega
      have s'' : c.sg = -1 := by omega
      exact (less_neg s s'').2 (sz_trans ((less_neg s' s'').1 h') ((less_neg s s').1 h))
    · have s' : b.sg = 1 := by omega
      have s'' : c.sg = 1 := by omega
      exact (less_pos s s'').2 (sz_trans ((less_pos s s').1 h) ((less_pos s' s'').1 h'))
theorem less_total {a b : Dm} (ha : Norm a) (hb : Norm b) (h : lessD a b = false) (h' : lessD b a = false) : a = b := by
  have n1 : ¬ (a.sg < b.sg ∨ (a.sg = b.sg ∧ a.sg * sizeD a b < 0)) := fun q => by rw [(less_iff a b).2 q] at h; cases h
  have n2 : ¬ (b.sg < a.sg ∨ (b.sg = a.sg ∧ b.sg * sizeD b a < 0)) := fun q => by rw [(less_iff b a).2 q] at h'; cases h'
  have hs : a.sg = b.sg := by omega
  have h0 := sz_neg a b
  rcases sg_cases a with ⟨s, d⟩ | ⟨s, m, d⟩ | ⟨s, m, d⟩
  · rcases sg_cases b with ⟨s', d'⟩ | ⟨s', _⟩ | ⟨s', _⟩
    · rw [norm_zero ha d, norm_zero hb d']
    · omega
    · omega
  · rcases sg_cases b with ⟨s', _⟩ | ⟨s', m', d'⟩ | ⟨s', _⟩
    · omega
    · have hz : sizeD a b = 0 := by
        rw [s, s'] at n1 n2; omega
      obtain ⟨e1, e2⟩ := sz_zero hz
      cases a; cases b; simp_all
    · omega
  · rcases sg_cases b with ⟨s', _⟩ | ⟨s', _⟩ | ⟨s', m', d'⟩
    · omega
    · omega
    · have hz : sizeD a b = 0 := by
        rw [s, s'] at n1 n2; omega
      obtain ⟨e1, e2⟩ := sz_zero hz
      cases a; cases b; simp_all
theorem text_inj {a b : Dm} (ha : Norm a) (hb : Norm b) (h : a.text = b.text) : a = b := by
  have h1 := text_parse ha
  rw [h, text_parse hb] at h1
  exact (Option.some.inj h1).symm
theorem text_len {d : Dm} (h : Norm d) : d.text.length ≤ d.digits.length + 30 := by
  unfold Dm.text
  split
  · simp
  · have hi := inB_t.1 h.inb
    have h1 := Lib.itoa_length_le d.exp (by omega) (by omega)
    simp only [List.length_append, List.length_cons]
    cases d.minus <;> simp <;> omega

end Go.Proofs.YtncldnghhpdolaaGreatDoor
