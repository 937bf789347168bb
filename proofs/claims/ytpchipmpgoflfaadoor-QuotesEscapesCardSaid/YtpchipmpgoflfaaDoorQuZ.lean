/- Plain laws of chapter 03's strings: a string that is cut, or has more behind it; no program in it, and no statement of the seat is proved here. -/
import Derived.Test.YtpchipmpgoflfaaDoorQuS
namespace Go.Proofs.YtpchipmpgoflfaaDoor
open Go.RowKit

theorem hx_bt {l l' : List UInt8} {j : Nat} (h : bt l j = bt l' j) : hx l j = hx l' j := by
  unfold bt at h
  unfold hx
  by_cases h1 : j < l.length
  · by_cases h2 : j < l'.length
    · rw [dif_pos h1, dif_pos h2] at h
      rw [dif_pos h1, dif_pos h2, UInt8.toNat_inj.1 h]
    · rw [dif_pos h1, dif_neg h2] at h
      have := l[j].toNat_lt
      omega
  · by_cases h2 : j < l'.length
    · rw [dif_neg h1, dif_pos h2] at h
      have := l'[j].toNat_lt
      omega
    · rw [dif_neg h1, dif_neg h2]
theorem unitL_eq (l : List UInt8) (a : Nat) : unitL l a = if bt l a ≠ 92 then (0, (a : Int)) else if bt l (a + 1) ≠ 117 then (0, (a : Int) + 1) else dgs l 4 (a + 2) 0 := by
  unfold unitL
  rw [uRest]
theorem dgs_same {l l' : List UInt8} {p : Nat} (hag : ∀ j, j < p → bt l j = bt l' j) : ∀ (k i : Nat) (n : Int), ((dgs l k i n).2 = -1 ∧ i + k ≤ p ∨ 0 ≤ (dgs l k i n).2 ∧ (dgs l k i n).2 < p) → dgs l' k i n = dgs l k i n := by
  intro k
  induction k with
  | zero => intro i n _; rfl
  | succ k ih =>
    intro i n h
    rw [dgs] at h
    by_cases hd : hx l i < 0
    · rw [if_pos hd] at h
      rw [dgs, dgs, ← hx_bt (hag i (by simp at h; omega)), if_pos hd, if_pos hd]
    · rw [if_neg hd] at h
      have hi : i < p := by
        rcases h with h | h
        · omega
        · rcases dgs_pos l k (i + 1) (16 * n + hx l i) with h1 | h1
          · omega
          · omega
      rw [dgs, dgs, ← hx_bt (hag i hi), if_neg hd, if_neg hd]
      exact ih _ _ (by omega)
theorem dgs_cut {l l' : List UInt8} {p : Nat} (hag : ∀ j, j < p → bt l j = bt l' j) (he : bt l' p = 256) : ∀ (k i : Nat) (n : Int), i ≤ p → p < i + k → ((dgs l k i n).2 = -1 ∨ (p : Int) ≤ (dgs l k i n).2) → dgs l' k i n = (0, (p : Int)) := by
  have hp : hx l' p = -1 := by
    unfold bt at he
    by_cases h2 : p < l'.length
    · rw [dif_pos h2] at he
      have := l'[p].toNat_lt
      omega
    · rw [hx, dif_neg h2]
  intro k
  induction k with
  | zero => intro i n h1 h2 _; omega
  | succ k ih =>
    intro i n h1 h2 h
    by_cases hi : i = p
    · subst hi
      rw [dgs, hp, if_pos (by omega)]
    · have hx' := hx_bt (hag i (by omega))
      rw [dgs] at h
      by_cases hd : hx l i < 0
      · rw [if_pos hd] at h; simp at h; omega
      · rw [if_neg hd] at h
        rw [dgs, ← hx', if_neg hd]
        exact ih _ _ (by omega) (by omega) h
theorem unit_same {l l' : List UInt8} {p a : Nat} (hag : ∀ j, j < p → bt l j = bt l' j) (h : (unitL l a).2 = -1 ∧ a + 6 ≤ p ∨ 0 ≤ (unitL l a).2 ∧ (unitL l a).2 < p) : unitL l' a = unitL l a := by
  rw [unitL_eq] at h
  rw [unitL_eq, unitL_eq]
  by_cases h1 : bt l a ≠ 92
  · rw [if_pos h1] at h
    rw [← hag a (by simp at h; omega), if_pos h1, if_pos h1]
  rw [if_neg h1] at h
  by_cases h2 : bt l (a + 1) ≠ 117
  · rw [if_pos h2] at h
    have hp : a + 1 < p := by simp at h; omega
    rw [← hag a (by omega), ← hag (a + 1) hp, if_neg h1, if_neg h1, if_pos h2, if_pos h2]
  rw [if_neg h2] at h
  have hp : a + 1 < p := by
    rcases dgs_pos l 4 (a + 2) 0 with h3 | h3
    · omega
    · omega
  rw [← hag a (by omega), ← hag (a + 1) hp, if_neg h1, if_neg h1, if_neg h2, if_neg h2]
  exact dgs_same hag _ _ _ (by omega)
theorem unit_cut {l l' : List UInt8} {p a : Nat} (hag : ∀ j, j < p → bt l j = bt l' j) (he : bt l' p = 256) (h1 : a ≤ p) (h2 : p < a + 6) (h : (unitL l a).2 = -1 ∨ (p : Int) ≤ (unitL l a).2) : unitL l' a = (0, (p : Int)) := by
  rw [unitL_eq] at h
  rw [unitL_eq]
  by_cases hp : p = a
  · subst hp; rw [if_pos (by omega)]
  rw [← hag a (by omega)]
  by_cases g1 : bt l a ≠ 92
  · rw [if_pos g1] at h; simp at h; omega
  rw [if_neg g1] at h ⊢
  by_cases hp1 : p = a + 1
  · subst hp1; rw [if_pos (by omega)]; simp
  rw [← hag (a + 1) (by omega)]
  by_cases g2 : bt l (a + 1) ≠ 117
  · rw [if_pos g2] at h; simp at h; omega
  rw [if_neg g2] at h ⊢
  exact dgs_cut hag he _ _ _ (by omega) (by omega) h
/-- Where an escape's unit is wrong, and how long the text is where it is not. -/
theorem unit_pos (l : List UInt8) (a : Nat) : (unitL l a).2 = -1 ∧ a + 6 ≤ l.length ∨ (unitL l a).1 = 0 ∧ (a : Int) ≤ (unitL l a).2 ∧ (unitL l a).2 < a + 6 := by
  have hd : ∀ (k i : Nat) (n : Int), (dgs l k i n).2 = -1 → k = 0 ∨ i + k ≤ l.length := by
    intro k
    induction k with
    | zero => intro i n _; exact .inl rfl
    | succ k ih =>
      intro i n h
      rw [dgs] at h
      by_cases g : hx l i < 0
      · rw [if_pos g] at h; exfalso; dsimp only at h; omega
      · rw [if_neg g] at h
        have hi : i < l.length := by
          unfold hx at g
          by_cases h2 : i < l.length
          · exact h2
          · rw [dif_neg h2] at g; omega
        rcases ih _ _ h with h1 | h1
        · subst h1; right; omega
        · right; omega
  rw [unitL_eq]
  by_cases h1 : bt l a ≠ 92
  · rw [if_pos h1]; right; exact ⟨rfl, by simp, by simp; try omega⟩
  rw [if_neg h1]
  by_cases h2 : bt l (a + 1) ≠ 117
  · rw [if_pos h2]; right; exact ⟨rfl, by simp; try omega, by simp; try omega⟩
  rw [if_neg h2]
  rcases dgs_pos l 4 (a + 2) 0 with h3 | ⟨h3, h4, h5⟩
  · left
    refine ⟨h3, ?_⟩
    rcases hd _ _ _ h3 with h | h <;> omega
  · right
    exact ⟨h3, by omega, by omega⟩

theorem bt_len {l : List UInt8} {i : Nat} (h : bt l i ≠ 256) : i < l.length := by
  rcases Nat.lt_or_ge i l.length with h' | h'
  · exact h'
  · exact absurd (bt_ge h') h
/-- What the rune of an escape may be. -/
theorem rune_ways (l : List UInt8) (a : Nat) :
    ((unitL l a).1 = 0 ∧ 0 ≤ (unitL l a).2 ∧ (unitL l a).2 < a + 6 ∧ (a : Int) ≤ (unitL l a).2 ∧ runeL l a = (0, 0, 3, (unitL l a).2)) ∨
    ((unitL l a).2 = -1 ∧ a + 6 ≤ l.length ∧ ((unitL l a).1 < 55296 ∨ 57344 ≤ (unitL l a).1) ∧ runeL l a = ((unitL l a).1, 6, 0, 0)) ∨
    ((unitL l a).2 = -1 ∧ a + 6 ≤ l.length ∧ (55296 ≤ (unitL l a).1 ∧ (unitL l a).1 < 57344) ∧ (56320 ≤ (unitL l a).1 ∨ 0 ≤ (unitL l (a + 6)).2 ∨ (unitL l (a + 6)).1 < 56320 ∨ 57344 ≤ (unitL l (a + 6)).1) ∧ runeL l a = (0, 0, 6, (a : Int))) ∨
    ((unitL l a).2 = -1 ∧ a + 12 ≤ l.length ∧ (55296 ≤ (unitL l a).1 ∧ (unitL l a).1 < 56320) ∧ (unitL l (a + 6)).2 = -1 ∧ (56320 ≤ (unitL l (a + 6)).1 ∧ (unitL l (a + 6)).1 < 57344) ∧ runeL l a = (65536 + ((unitL l a).1 - 55296) * 1024 + (unitL l (a + 6)).1 - 56320, 12, 0, 0)) := by
  have hp := unit_pos l a
  have hq := unit_pos l (a + 6)
  unfold runeL
  by_cases h1 : 0 ≤ (unitL l a).2
  · left
    rw [if_pos h1]
    rcases hp with hp | hp
    · omega
    · exact ⟨hp.1, h1, hp.2.2, hp.2.1, rfl⟩
  rw [if_neg h1]
  have h0 : (unitL l a).2 = -1 ∧ a + 6 ≤ l.length := by
    rcases hp with hp | hp
    · exact hp
    · omega
  by_cases h2 : (unitL l a).1 < 55296 ∨ 57344 ≤ (unitL l a).1
  · right; left
    rw [if_pos h2]
    exact ⟨h0.1, h0.2, h2, rfl⟩
  rw [if_neg h2]
  by_cases h3 : 56320 ≤ (unitL l a).1 ∨ 0 ≤ (unitL l (a + 6)).2 ∨ (unitL l (a + 6)).1 < 56320 ∨ 57344 ≤ (unitL l (a + 6)).1
  · right; right; left
    rw [if_pos h3]
    exact ⟨h0.1, h0.2, by omega, h3, rfl⟩
  rw [if_neg h3]
  right; right; right
  have h4 : (unitL l (a + 6)).2 = -1 ∧ a + 6 + 6 ≤ l.length := by
    rcases hq with hq | hq
    · exact hq
    · omega
  exact ⟨h0.1, by omega, by omega, h4.1, by omega, rfl⟩
theorem esc_none {l : List UInt8} {a : Nat} (h : a + 1 < l.length) (hs : shortFrom (bt l (a + 1)) 0 = none) : escL l a = (putL [(runeL l a).1], (runeL l a).2.1, (runeL l a).2.2.1, (runeL l a).2.2.2) := by
  rw [escL, if_neg (by omega), hs]
theorem esc_some {l : List UInt8} {a b : Nat} (h : a + 1 < l.length) (hs : shortFrom (bt l (a + 1)) 0 = some b) : escL l a = ([UInt8.ofNat b], 2, 0, 0) := by
  rw [escL, if_neg (by omega), hs]
/-- A fault of an escape: where. -/
theorem esc_at {l : List UInt8} {a : Nat} {t : List UInt8} {k co fa : Int} (hin : a < l.length) (h : escL l a = (t, k, co, fa)) (hc : co ≠ 0) : co = 3 ∧ (a : Int) ≤ fa ∧ fa ≤ l.length ∨ co = 6 ∧ fa = a := by
  by_cases h1 : l.length ≤ a + 1
  · rw [escL, if_pos h1] at h
    injection h with _ h; injection h with _ h; injection h with h2 h3
    left; omega
  cases hs : shortFrom (bt l (a + 1)) 0 with
  | some b =>
    rw [esc_some (by omega) hs] at h
    injection h with _ h; injection h with _ h; injection h with h2 h3
    omega
  | none =>
    rw [esc_none (by omega) hs] at h
    injection h with _ h; injection h with _ h; injection h with h2 h3
    rcases rune_ways l a with ⟨_, g1, g2, g3, e⟩ | ⟨_, _, _, e⟩ | ⟨_, _, _, _, e⟩ | ⟨_, _, _, _, _, e⟩ <;> rw [e] at h2 h3 <;> dsimp only at h2 h3
    · left
      refine ⟨h2.symm, by omega, ?_⟩
      -- the first byte that is wrong is at most the end
      rcases (by omega : (l.length : Int) < fa ∨ fa ≤ (l.length : Int)) with g | g
      · exfalso
        have hu : unitL l a = (0, (l.length : Int)) := unit_cut (l := l) (fun _ _ => rfl) (bt_ge (Nat.le_refl _)) (by omega) (by omega) (.inr (by omega))
        rw [hu] at h3
        dsimp only at h3
        omega
      · exact g
    · omega
    · right; exact ⟨h2.symm, h3.symm⟩
    · omega
theorem bt_app (l m : List UInt8) {j : Nat} (h : j < l.length) : bt l j = bt (l ++ m) j := by
  rw [bt_lt h, bt_lt (by simp; omega), List.getElem_append_left h]
theorem bt_take {l : List UInt8} {n j : Nat} (h : j < n) : bt l j = bt (l.take n) j := by
  unfold bt
  by_cases h1 : j < l.length
  · rw [dif_pos h1, dif_pos (by simp; omega)]; simp
  · rw [dif_neg h1, dif_neg (by simp; omega)]
/-- With more behind it an escape is as it was. -/
theorem esc_ext {l m : List UInt8} {a : Nat} {t : List UInt8} {k co fa : Int} (hin : a < l.length) (h : escL l a = (t, k, co, fa)) (hc : co = 0 ∨ co = 3 ∧ fa < l.length ∨ co = 6 ∧ a + 12 ≤ l.length) : escL (l ++ m) a = (t, k, co, fa) := by
  have hag : ∀ j, j < l.length → bt l j = bt (l ++ m) j := fun j hj => bt_app l m hj
  by_cases h1 : l.length ≤ a + 1
  · rw [escL, if_pos h1] at h
    injection h with _ h; injection h with _ h; injection h with h2 h3
    omega
  have hl : a + 1 < (l ++ m).length := by simp; omega
  cases hs : shortFrom (bt l (a + 1)) 0 with
  | some b =>
    rw [esc_some (by omega) hs] at h
    rw [esc_some hl (by rw [← hag _ (by omega)]; exact hs)]
    exact h
  | none =>
    rw [esc_none (by omega) hs] at h
    rw [esc_none hl (by rw [← hag _ (by omega)]; exact hs)]
    suffices hr : runeL (l ++ m) a = runeL l a by rw [hr]; exact h
    injection h with _ h; injection h with _ h; injection h with h2 h3
    rcases rune_ways l a with ⟨_, g1, g2, g3, e⟩ | ⟨g1, g2, _, e⟩ | ⟨g1, g2, g3, g4, e⟩ | ⟨g1, g2, g3, g4, _, e⟩ <;> rw [e] at h2 h3 <;> dsimp only at h2 h3
    · unfold runeL
      rw [unit_same hag (.inr ⟨g1, by omega⟩), if_pos g1, if_pos g1]
    · unfold runeL
      rw [unit_same hag (.inl ⟨g1, by omega⟩)]
      rename_i g5
      rw [if_neg (by omega), if_pos g5, if_neg (by omega), if_pos g5]
    · have h2' : unitL (l ++ m) (a + 6) = unitL l (a + 6) := by
        rcases unit_pos l (a + 6) with q | q
        · exact unit_same hag (.inl ⟨q.1, by omega⟩)
        · exact unit_same hag (.inr ⟨by omega, by omega⟩)
      unfold runeL
      rw [unit_same hag (.inl ⟨g1, by omega⟩), h2']
    · have h2' : unitL (l ++ m) (a + 6) = unitL l (a + 6) := unit_same hag (.inl ⟨g4, by omega⟩)
      unfold runeL
      rw [unit_same hag (.inl ⟨g1, by omega⟩), h2']
/-- An escape that is cut. -/
theorem esc_cut {l : List UInt8} {a n : Nat} {t : List UInt8} {k : Nat} (hin : a < n) (hn : n < l.length) (h : escL l a = (t, (k : Int), 0, 0)) :
    (a + k ≤ n ∧ escL (l.take n) a = (t, (k : Int), 0, 0)) ∨ ∃ t' k' co fa, escL (l.take n) a = (t', k', co, fa) ∧ (co = 3 ∧ fa = n ∨ co = 6 ∧ fa < n ∧ n - fa < 12) := by
  have hlen : (l.take n).length = n := by simp; omega
  have hag : ∀ j, j < n → bt l j = bt (l.take n) j := fun j hj => bt_take hj
  have hend : bt (l.take n) n = 256 := bt_ge (by omega)
  by_cases h1 : n ≤ a + 1
  · right
    rw [escL, if_pos (by omega)]
    exact ⟨_, _, _, _, rfl, .inl ⟨rfl, by omega⟩⟩
  cases hs : shortFrom (bt l (a + 1)) 0 with
  | some b =>
    left
    rw [esc_some (by omega) hs] at h
    have hk : k = 2 := by
      injection h with _ h; injection h with h2 h; omega
    rw [esc_some (by omega) (by rw [← hag _ (by omega)]; exact hs)]
    exact ⟨by omega, h⟩
  | none =>
    rw [esc_none (by omega) hs] at h
    have hes := esc_none (l := l.take n) (a := a) (by omega) (by rw [← hag _ (by omega)]; exact hs)
    rcases rune_ways l a with ⟨_, g1, g2, g3, e⟩ | ⟨g1, g2, g5, e⟩ | ⟨g1, g2, g3, g4, e⟩ | ⟨g1, g2, g3, g4, g5, e⟩
    · rw [e] at h; injection h with _ h; injection h with _ h; injection h with h2 h3; dsimp only at h2; omega
    · by_cases hk : a + 6 ≤ n
      · left
        have hk6 : k = 6 := by
          rw [e] at h; injection h with _ h; injection h with h2 h; dsimp only at h2; omega
        refine ⟨by omega, ?_⟩
        have hr : runeL (l.take n) a = runeL l a := by
          unfold runeL
          rw [unit_same hag (.inl ⟨g1, by omega⟩), if_neg (by omega), if_pos g5, if_neg (by omega), if_pos g5]
        rw [hes, hr]; exact h
      · right
        have hu := unit_cut (l := l) hag hend (a := a) (by omega) (by omega) (.inl g1)
        have hr : runeL (l.take n) a = (0, 0, 3, (n : Int)) := by unfold runeL; rw [hu, if_pos (by dsimp only; omega)]
        rw [hes, hr]
        exact ⟨_, _, _, _, rfl, .inl ⟨rfl, rfl⟩⟩
    · rw [e] at h; injection h with _ h; injection h with _ h; injection h with h2 h3; dsimp only at h2; omega
    · have hk12 : k = 12 := by
        rw [e] at h; injection h with _ h; injection h with h2 h; dsimp only at h2; omega
      by_cases hk : a + 12 ≤ n
      · left
        refine ⟨by omega, ?_⟩
        have hr : runeL (l.take n) a = runeL l a := by
          unfold runeL
          rw [unit_same hag (.inl ⟨g1, by omega⟩), unit_same (a := a + 6) hag (.inl ⟨g4, by omega⟩)]
        rw [hes, hr]; exact h
      · right
        by_cases hk6 : a + 6 ≤ n
        · have hu := unit_cut (l := l) hag hend (a := a + 6) (by omega) (by omega) (.inl g4)
          have hr : runeL (l.take n) a = (0, 0, 6, (a : Int)) := by
            unfold runeL
            rw [unit_same hag (.inl ⟨g1, by omega⟩), hu, if_neg (by omega), if_neg (by omega), if_pos (.inr (.inl (by dsimp only; omega)))]
          rw [hes, hr]
          exact ⟨_, _, _, _, rfl, .inr ⟨rfl, by dsimp only; omega, by dsimp only; omega⟩⟩
        · have hu := unit_cut (l := l) hag hend (a := a) (by omega) (by omega) (.inl g1)
          have hr : runeL (l.take n) a = (0, 0, 3, (n : Int)) := by unfold runeL; rw [hu, if_pos (by dsimp only; omega)]
          rw [hes, hr]
          exact ⟨_, _, _, _, rfl, .inl ⟨rfl, rfl⟩⟩

/-- What rdQ does at a place, way by way. -/
theorem rd_ways (l : List UInt8) (i : Nat) (out : List UInt8) (h : i < l.length) :
    (l[i].toNat < 32 ∧ rdQ l i out = ([], 3, (i : Int))) ∨
    (l[i].toNat = 34 ∧ i + 1 = l.length ∧ rdQ l i out = (out, 0, 0)) ∨
    (l[i].toNat = 34 ∧ i + 1 ≠ l.length ∧ rdQ l i out = ([], 3, (i : Int) + 1)) ∨
    (32 ≤ l[i].toNat ∧ l[i].toNat ≠ 34 ∧ l[i].toNat ≠ 92 ∧ rdQ l i out = rdQ l (i + 1) (out ++ [l[i]])) ∨
    (l[i].toNat = 92 ∧ ∃ t, ∃ k : Nat, escL l i = (t, (k : Int), 0, 0) ∧ 2 ≤ k ∧ k ≤ 12 ∧ rdQ l i out = rdQ l (i + k) (out ++ t)) ∨
    (l[i].toNat = 92 ∧ ∃ t k co fa, escL l i = (t, k, co, fa) ∧ (co = 3 ∨ co = 6) ∧ rdQ l i out = ([], co, fa)) := by
  by_cases h1 : l[i].toNat < 32
  · exact .inl ⟨h1, by rw [rdQ, dif_pos h, if_pos h1]⟩
  by_cases h2 : l[i].toNat = 34
  · by_cases h3 : i + 1 = l.length
    · exact .inr (.inl ⟨h2, h3, by rw [rdQ, dif_pos h, if_neg h1, if_pos h2, if_pos h3]⟩)
    · exact .inr (.inr (.inl ⟨h2, h3, by rw [rdQ, dif_pos h, if_neg h1, if_pos h2, if_neg h3]⟩))
  by_cases h3 : l[i].toNat ≠ 92
  · exact .inr (.inr (.inr (.inl ⟨by omega, h2, h3, by conv => lhs; rw [rdQ, dif_pos h, if_neg h1, if_neg h2, if_pos h3]⟩)))
  have h4 : l[i].toNat = 92 := by omega
  rcases esc_ways l i with ⟨t, k, he, hk, hk2, _⟩ | ⟨t, k, co, fa, he, hco⟩
  · refine .inr (.inr (.inr (.inr (.inl ⟨h4, t, k, he, hk, hk2, ?_⟩))))
    conv => lhs; rw [rdQ, dif_pos h, if_neg h1, if_neg h2, if_neg h3, he, dif_pos ⟨rfl, by simpa using (by omega : 0 < k)⟩]
    simp
  · refine .inr (.inr (.inr (.inr (.inr ⟨h4, t, k, co, fa, he, hco, ?_⟩))))
    rw [rdQ, dif_pos h, if_neg h1, if_neg h2, if_neg h3, he, dif_neg (by simp; omega)]

theorem app_get {l m : List UInt8} {i : Nat} (h : i < l.length) : ∃ h' : i < (l ++ m).length, (l ++ m)[i] = l[i] := ⟨by simp; omega, by rw [List.getElem_append_left h]⟩
theorem take_get {l : List UInt8} {n i : Nat} (h : i < n) (hn : n ≤ l.length) : ∃ h' : i < (l.take n).length, (l.take n)[i] = l[i] := ⟨by simp; omega, by simp⟩

theorem rd_more {l m : List UInt8} (hm : m ≠ []) : ∀ (n i : Nat) (out res : List UInt8), l.length - i ≤ n → rdQ l i out = (res, 0, 0) → rdQ (l ++ m) i out = ([], 3, (l.length : Int)) := by
  have hml : 0 < m.length := by cases m with
    | nil => exact absurd rfl hm
    | cons x m => simp
  intro n
  induction n with
  | zero =>
    intro i out res hn h
    rw [rdQ_end (by omega)] at h
    injection h with _ h; injection h with h _; omega
  | succ n ih =>
    intro i out res hn h
    rcases Nat.lt_or_ge i l.length with hi | hi
    · obtain ⟨hi', hg⟩ := app_get (m := m) hi
      rcases rd_ways l i out hi with ⟨h1, e⟩ | ⟨h1, h2, e⟩ | ⟨h1, h2, e⟩ | ⟨h1, h2, h3, e⟩ | ⟨h1, t, k, he, hk, hk2, e⟩ | ⟨h1, t, k, co, fa, he, hco, e⟩ <;> rw [e] at h
      · injection h with _ h; injection h with h _; omega
      · rw [rdQ, dif_pos hi', hg, if_neg (by omega), if_pos h1, if_neg (by simp; omega), ← h2]; rfl
      · injection h with _ h; injection h with h _; omega
      · rw [rdQ, dif_pos hi', hg, if_neg (by omega), if_neg h2, if_pos h3]
        exact ih _ _ _ (by omega) h
      · rw [rdQ, dif_pos hi', hg, if_neg (by omega), if_neg (by omega), if_neg (by omega), esc_ext hi he (.inl rfl), dif_pos ⟨rfl, by simpa using (by omega : 0 < k)⟩]
        exact ih _ _ _ (by simp; omega) (by simpa using h)
      · injection h with _ h; injection h with h _; omega
    · rw [rdQ_end hi] at h
      injection h with _ h; injection h with h _; omega
theorem rd_keeps {l m : List UInt8} : ∀ (n i : Nat) (out res : List UInt8) (c fa : Int), l.length - i ≤ n → rdQ l i out = (res, c, fa) → c ≠ 0 → fa + 12 < l.length → rdQ (l ++ m) i out = (res, c, fa) := by
  intro n
  induction n with
  | zero =>
    intro i out res c fa hn h hc hf
    rw [rdQ_end (by omega)] at h
    injection h with _ h; injection h with _ h; omega
  | succ n ih =>
    intro i out res c fa hn h hc hf
    rcases Nat.lt_or_ge i l.length with hi | hi
    · obtain ⟨hi', hg⟩ := app_get (m := m) hi
      rcases rd_ways l i out hi with ⟨h1, e⟩ | ⟨h1, h2, e⟩ | ⟨h1, h2, e⟩ | ⟨h1, h2, h3, e⟩ | ⟨h1, t, k, he, hk, hk2, e⟩ | ⟨h1, t, k, co, fa', he, hco, e⟩ <;> rw [e] at h
      · rw [rdQ, dif_pos hi', hg, if_pos h1]; exact h
      · injection h with _ h; injection h with h _; omega
      · rw [rdQ, dif_pos hi', hg, if_neg (by omega), if_pos h1, if_neg (by simp; omega)]; exact h
      · rw [rdQ, dif_pos hi', hg, if_neg (by omega), if_neg h2, if_pos h3]
        exact ih _ _ _ _ _ (by omega) h hc hf
      · rw [rdQ, dif_pos hi', hg, if_neg (by omega), if_neg (by omega), if_neg (by omega), esc_ext hi he (.inl rfl), dif_pos ⟨rfl, by simpa using (by omega : 0 < k)⟩]
        exact ih _ _ _ _ _ (by simp; omega) (by simpa using h) hc hf
      · have e2 : co = c ∧ fa' = fa := by injection h with _ h; injection h with h1 h2; exact ⟨h1, h2⟩
        obtain ⟨rfl, rfl⟩ := e2
        have hat := esc_at hi he hc
        rw [rdQ, dif_pos hi', hg, if_neg (by omega), if_neg (by omega), if_neg (by omega), esc_ext hi he (.inr (by omega)), dif_neg (by simp; omega)]
        exact h
    · rw [rdQ_end hi] at h
      injection h with _ h; injection h with _ h; omega
/-- A string that is cut is wrong at its end, or at a half of a pair. -/
def CutAt (n : Nat) (r : List UInt8 × Int × Int) : Prop := r.1 = [] ∧ (r.2.1 = 3 ∧ r.2.2 = n ∨ r.2.1 = 6 ∧ r.2.2 < n ∧ n - r.2.2 < 12)
theorem rd_cut {l : List UInt8} {p : Nat} (hp : p < l.length) : ∀ (n i : Nat) (out res : List UInt8), p - i ≤ n → i ≤ p → rdQ l i out = (res, 0, 0) → CutAt p (rdQ (l.take p) i out) := by
  have hlen : (l.take p).length = p := by simp; omega
  intro n
  induction n with
  | zero =>
    intro i out res hn hip h
    rw [rdQ_end (by omega), hlen]
    exact ⟨rfl, .inl ⟨rfl, rfl⟩⟩
  | succ n ih =>
    intro i out res hn hip h
    rcases Nat.lt_or_ge i p with hi | hi
    · obtain ⟨hi', hg⟩ := take_get (l := l) hi (by omega)
      have hil : i < l.length := by omega
      rcases rd_ways l i out hil with ⟨h1, e⟩ | ⟨h1, h2, e⟩ | ⟨h1, h2, e⟩ | ⟨h1, h2, h3, e⟩ | ⟨h1, t, k, he, hk, hk2, e⟩ | ⟨h1, t, k, co, fa, he, hco, e⟩ <;> rw [e] at h
      · injection h with _ h; injection h with h _; omega
      · omega
      · injection h with _ h; injection h with h _; omega
      · rw [rdQ, dif_pos hi', hg, if_neg (by omega), if_neg h2, if_pos h3]
        exact ih _ _ _ (by omega) (by omega) h
      · rw [rdQ, dif_pos hi', hg, if_neg (by omega), if_neg (by omega), if_neg (by omega)]
        rcases esc_cut hi hp he with ⟨g, e2⟩ | ⟨t', k', co, fa, e2, g⟩
        · rw [e2, dif_pos ⟨rfl, by simpa using (by omega : 0 < k)⟩]
          exact ih _ _ _ (by simp; omega) (by simpa using g) (by simpa using h)
        · rw [e2, dif_neg (by simp; omega)]
          exact ⟨rfl, g⟩
      · injection h with _ h; injection h with h _; omega
    · rw [rdQ_end (by omega), hlen]
      exact ⟨rfl, .inl ⟨rfl, rfl⟩⟩
theorem rd_fault {l : List UInt8} : ∀ (n i : Nat) (out res : List UInt8) (c fa : Int), l.length - i ≤ n → i ≤ l.length → rdQ l i out = (res, c, fa) → c = 0 ∧ fa = 0 ∨ res = [] ∧ (c = 3 ∨ c = 6) ∧ 0 ≤ fa ∧ fa ≤ l.length := by
  intro n
  induction n with
  | zero =>
    intro i out res c fa hn hil h
    rw [rdQ_end (by omega)] at h
    injection h with h0 h; injection h with h1 h2
    right; exact ⟨h0.symm, by omega, by omega, by omega⟩
  | succ n ih =>
    intro i out res c fa hn hil h
    rcases Nat.lt_or_ge i l.length with hi | hi
    · rcases rd_ways l i out hi with ⟨h1, e⟩ | ⟨h1, h2, e⟩ | ⟨h1, h2, e⟩ | ⟨h1, h2, h3, e⟩ | ⟨h1, t, k, he, hk, hk2, e⟩ | ⟨h1, t, k, co, fa', he, hco, e⟩ <;> rw [e] at h
      · injection h with h0 h; injection h with h1 h2
        right; exact ⟨h0.symm, by omega, by omega, by omega⟩
      · injection h with h0 h; injection h with h1 h2
        left; omega
      · injection h with h0 h; injection h with h1 h2
        right; exact ⟨h0.symm, by omega, by omega, by omega⟩
      · exact ih _ _ _ _ _ (by omega) (by omega) h
      · by_cases hik : i + k ≤ l.length
        · exact ih _ _ _ _ _ (by omega) hik h
        · rw [rdQ_end (by omega)] at h
          injection h with h0 h; injection h with h1 h2
          right; exact ⟨h0.symm, by omega, by omega, by omega⟩
      · have e2 : co = c ∧ fa' = fa := by injection h with _ h; injection h with h1 h2; exact ⟨h1, h2⟩
        obtain ⟨rfl, rfl⟩ := e2
        have hat := esc_at hi he (by omega)
        injection h with h0 h
        right; exact ⟨h0.symm, hco, by omega, by omega⟩
    · rw [rdQ_end hi] at h
      injection h with h0 h; injection h with h1 h2
      right; exact ⟨h0.symm, by omega, by omega, by omega⟩

theorem readQ_rd {l : List UInt8} (h : 0 < l.length) (h1 : bt l 0 = 34) : readQ l = rdQ l 1 [] := by
  rw [readQ, if_neg (by omega), if_neg (by omega)]
theorem readQ_no {l : List UInt8} (h : l.length = 0 ∨ bt l 0 ≠ 34) : readQ l = ([], 3, 0) := by
  unfold readQ
  split
  · rfl
  · rw [if_pos (by omega)]
theorem readQ_opens {l res : List UInt8} (h : readQ l = (res, 0, 0)) : 0 < l.length ∧ bt l 0 = 34 := by
  by_cases h1 : l.length = 0 ∨ bt l 0 ≠ 34
  · rw [readQ_no h1] at h
    injection h with _ h; injection h with h _; omega
  · omega
theorem read_more {l m res : List UInt8} (hm : m ≠ []) (h : readQ l = (res, 0, 0)) : readQ (l ++ m) = ([], 3, (l.length : Int)) := by
  obtain ⟨h1, h2⟩ := readQ_opens h
  rw [readQ_rd h1 h2] at h
  rw [readQ_rd (by simp; omega) (by rw [← bt_app l m h1]; exact h2)]
  exact rd_more hm _ 1 [] res (Nat.le_refl _) h
theorem read_keeps {l m res : List UInt8} {c fa : Int} (h : readQ l = (res, c, fa)) (hc : c ≠ 0) (hf : fa + 12 < l.length) (h0 : 0 ≤ fa) : readQ (l ++ m) = (res, c, fa) := by
  have h1 : 0 < l.length := by omega
  by_cases h2 : bt l 0 = 34
  · rw [readQ_rd h1 h2] at h
    rw [readQ_rd (by simp; omega) (by rw [← bt_app l m h1]; exact h2)]
    exact rd_keeps _ 1 [] res c fa (Nat.le_refl _) h hc hf
  · rw [readQ_no (.inr h2)] at h
    rw [readQ_no (.inr (by rw [← bt_app l m h1]; exact h2))]
    exact h
theorem read_cut {l res : List UInt8} {p : Nat} (hp : p < l.length) (h : readQ l = (res, 0, 0)) : CutAt p (readQ (l.take p)) := by
  obtain ⟨h1, h2⟩ := readQ_opens h
  rw [readQ_rd h1 h2] at h
  by_cases h0 : p = 0
  · subst h0
    exact ⟨rfl, .inl ⟨rfl, rfl⟩⟩
  rw [readQ_rd (by simp; omega) (by rw [← bt_take (l := l) (n := p) (by omega)]; exact h2)]
  exact rd_cut hp _ 1 [] res (Nat.le_refl _) (by omega) h
theorem read_fault {l res : List UInt8} {c fa : Int} (h : readQ l = (res, c, fa)) : c = 0 ∧ fa = 0 ∨ res = [] ∧ (c = 3 ∨ c = 6) ∧ 0 ≤ fa ∧ fa ≤ l.length := by
  by_cases h1 : l.length = 0 ∨ bt l 0 ≠ 34
  · rw [readQ_no h1] at h
    injection h with h0 h; injection h with h1 h2
    right; exact ⟨h0.symm, by omega, by omega, by omega⟩
  · rw [readQ_rd (by omega) (by omega)] at h
    exact rd_fault _ 1 [] res c fa (Nat.le_refl _) (by omega) h

end Go.Proofs.YtpchipmpgoflfaaDoor
