/- The walk over the reference's Read of chapter 03; no statement of the seat is proved here. -/
import Derived.Test.YtpchipmpgoflfaaDoorQuP
import Derived.Test.YtpchipmpgoflfaaDoorRPut
import Derived.Deep.RegionLaw
namespace Go.Proofs.YtpchipmpgoflfaaDoor
open Go.RowKit

def UnitF.val (u : UnitF) : Value := .agg #[.int .i64 u.at_, .int .i64 u.long, .bool u.byte, .int .i64 u.n]
/-- A unit's number: a byte's, or below 65536. -/
def UnitF.Ok (u : UnitF) : Prop := (u.byte = true → ∃ x : UInt8, u.n = (x.toNat : Int)) ∧ 0 ≤ u.n ∧ u.n < 65536
theorem unitsL_ok (l : List UInt8) : ∀ (n i : Nat), l.length - i ≤ n → (∀ u ∈ (unitsL l i).1, u.Ok) ∧ ((unitsL l i).1 = [] ∨ (unitsL l i).1.length + i ≤ l.length) := by
  intro n
  induction n with
  | zero =>
    intro i hn
    rw [unitsL, dif_neg (by omega)]
    exact ⟨by simp, .inl rfl⟩
  | succ n ih =>
    intro i hn
    have step : ∀ (u : UnitF) (k : Nat), 0 < k → i + k ≤ l.length → u.Ok → (∀ x ∈ u :: (unitsL l (i + k)).1, x.Ok) ∧ (u :: (unitsL l (i + k)).1 = [] ∨ (u :: (unitsL l (i + k)).1).length + i ≤ l.length) := fun u k hk hik hu => by
      obtain ⟨h1, h2⟩ := ih (i + k) (by omega)
      refine ⟨fun x hx => ?_, .inr ?_⟩
      · rcases List.mem_cons.1 hx with rfl | hx
        · exact hu
        · exact h1 x hx
      · rcases h2 with h2 | h2
        · rw [h2]; simp; omega
        · simp; omega
    by_cases hj : i < l.length
    · rw [unitsL, dif_pos hj]
      split
      · exact ⟨by simp, .inl rfl⟩
      split
      · exact ⟨by simp, .inl rfl⟩
      split
      · exact step _ 1 (by omega) (by omega) ⟨fun _ => ⟨l[i], rfl⟩, by simp, by have := l[i].toNat_lt; simp; omega⟩
      split
      · exact ⟨by simp, .inl rfl⟩
      split
      · rename_i h5
        rcases shortI_ge (bt l (i + 1)) 0 with h | ⟨ha, hb⟩
        · omega
        · exact step _ 2 (by omega) (by omega) ⟨fun _ => ⟨UInt8.ofNat (shortI (bt l (i + 1)) 0).toNat, by simp; omega⟩, ha, by simp; omega⟩
      split
      · exact ⟨by simp, .inl rfl⟩
      split
      · exact ⟨by simp, .inl rfl⟩
      · rename_i h3 _ _ h6 h7
        have hu : unitL l i = dgs l 4 (i + 2) 0 := by
          unfold unitL
          rw [uRest, if_neg (by rw [bt_lt hj]; omega), if_neg h6]
        obtain ⟨a, b, _⟩ := unitL_rng l i
        rw [hu] at a b
        have h6l : i + 6 ≤ l.length := by
          rcases Nat.lt_or_ge l.length (i + 6) with h | h
          · exfalso
            have key : ∀ (k m : Nat) (n : Int), m + k > l.length → 0 < k → 0 ≤ (dgs l k m n).2 := by
              intro k
              induction k with
              | zero => intro m n _ h; omega
              | succ k ihk =>
                intro m n h1 _
                rw [dgs]
                split
                · simp
                · rename_i hx0
                  have hm : m < l.length := by
                    rcases Nat.lt_or_ge m l.length with h | h
                    · exact h
                    · unfold hx at hx0; rw [dif_neg (by omega)] at hx0; omega
                  exact ihk _ _ (by omega) (by omega)
            exact h7 (key 4 (i + 2) 0 (by omega) (by omega))
          · exact h
        exact step _ 6 (by omega) h6l ⟨by simp, a, b⟩
    · rw [unitsL, dif_neg hj]
      exact ⟨by simp, .inl rfl⟩
theorem unitsQ_ok (l : List UInt8) : (∀ u ∈ (unitsQ l).1, u.Ok) ∧ (unitsQ l).1.length ≤ l.length := by
  unfold unitsQ
  split
  · exact ⟨by simp, by simp⟩
  split
  · exact ⟨by simp, by simp⟩
  · obtain ⟨h1, h2⟩ := unitsL_ok l _ 1 (Nat.le_refl _)
    exact ⟨h1, h2.elim (fun h => by rw [h]; simp) (fun h => by omega)⟩

set_option maxHeartbeats 400000 in
theorem rhigh_any (u : UnitF) (w : World) : Calls Tryd.prog 23 #[u.val] w fun e w' => e = .returned (.bool (uHigh u)) ∧ Below w.heap.size w w' := by
  obtain ⟨at_, long, byte, n⟩ := u
  unfold UnitF.val uHigh
  dsimp only
  cases byte with
  | true =>
    go_enter Tryd.func23, Tryd.ntmps23
    go_wp2
    go_ret
    exact ⟨rfl, below_new1 _ _⟩
  | false =>
    by_cases h : 55296 ≤ n
    · go_enter Tryd.func23, Tryd.ntmps23
      go_wp2
      go_ret
      exact ⟨ret_bool (by simp [h]), below_new1 _ _⟩
    · go_enter Tryd.func23, Tryd.ntmps23
      go_wp2
      go_ret
      exact ⟨ret_bool (by simp; omega), below_new1 _ _⟩
set_option maxHeartbeats 400000 in
theorem rlow_any (u : UnitF) (w : World) : Calls Tryd.prog 24 #[u.val] w fun e w' => e = .returned (.bool (uLow u)) ∧ Below w.heap.size w w' := by
  obtain ⟨at_, long, byte, n⟩ := u
  unfold UnitF.val uLow
  dsimp only
  cases byte with
  | true =>
    go_enter Tryd.func24, Tryd.ntmps24
    go_wp2
    go_ret
    exact ⟨rfl, below_new1 _ _⟩
  | false =>
    by_cases h : 56320 ≤ n
    · go_enter Tryd.func24, Tryd.ntmps24
      go_wp2
      go_ret
      exact ⟨ret_bool (by simp [h]), below_new1 _ _⟩
    · go_enter Tryd.func24, Tryd.ntmps24
      go_wp2
      go_ret
      exact ⟨ret_bool (by simp; omega), below_new1 _ _⟩

/-- The cells of the unit number k. -/
theorem unit_cells {w : World} {base : Nat} {e : TypeId} {A : Option Addr} {us : List UnitF} {n c : Nat} (hn : n = us.length) (h : w.ownsRow base e 4 (.slice A n c) n (unitCells us)) {k : Nat} {u : UnitF} (hk : us[k]? = some u) :
    ∃ g, A = some ⟨g, 0, none⟩ ∧ base ≤ g ∧ g < w.heap.size ∧ w.cell? ⟨g, k * 4, none⟩ = some (.int .i64 u.at_) ∧ w.cell? ⟨g, k * 4 + 1, none⟩ = some (.int .i64 u.long) ∧ w.cell? ⟨g, k * 4 + 2, none⟩ = some (.bool u.byte) ∧ w.cell? ⟨g, k * 4 + 3, none⟩ = some (.int .i64 u.n) := by
  subst hn
  have hO := OwnS.of_own h
  obtain ⟨hi, he⟩ := List.getElem?_eq_some_iff.1 hk
  have hs : us = us.take k ++ u :: us.drop (k + 1) := by
    conv => lhs; rw [← List.take_append_drop k us, List.drop_eq_getElem_cons hi, he]
  have hl : (unitCells (us.take k)).length = k * 4 := by rw [unitCells_len]; simp; omega
  have hc : unitCells us = unitCells (us.take k) ++ ([.int .i64 u.at_, .int .i64 u.long, .bool u.byte, .int .i64 u.n] ++ unitCells (us.drop (k + 1))) := by
    conv => lhs; rw [hs]
    simp [unitCells, UnitF.cells]
  have hget : ∀ j (hj : j < 4), (unitCells us)[k * 4 + j]? = [Value.int .i64 u.at_, .int .i64 u.long, .bool u.byte, .int .i64 u.n][j]? := fun j hj => by
    rw [hc, List.getElem?_append_right (by omega), hl, show k * 4 + j - k * 4 = j by omega, List.getElem?_append_left (by simpa using hj)]
  obtain ⟨g, e0, hb, hg, q0⟩ := hO.cell (j := k * 4) (by omega)
  obtain ⟨_, e1, _, _, q1⟩ := hO.cell (j := k * 4 + 1) (by omega); rw [e0] at e1; cases e1
  obtain ⟨_, e1, _, _, q2⟩ := hO.cell (j := k * 4 + 2) (by omega); rw [e0] at e1; cases e1
  obtain ⟨_, e1, _, _, q3⟩ := hO.cell (j := k * 4 + 3) (by omega); rw [e0] at e1; cases e1
  refine ⟨g, e0, hb, hg, ?_, ?_, ?_, ?_⟩
  · rw [q0, ← List.getElem?_eq_getElem]; exact hget 0 (by omega)
  · rw [q1, ← List.getElem?_eq_getElem]; exact hget 1 (by omega)
  · rw [q2, ← List.getElem?_eq_getElem]; exact hget 2 (by omega)
  · rw [q3, ← List.getElem?_eq_getElem]; exact hget 3 (by omega)

end Go.Proofs.YtpchipmpgoflfaaDoor
