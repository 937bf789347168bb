/- Walks over package quotes: runeAt, wrong; no statement of the seat is proved here. -/
import Derived.Test.YtpchipmpgoflfaaDoorQuB
namespace Go.Proofs.YtpchipmpgoflfaaDoor
open Go.RowKit

theorem dgs_rng (l : List UInt8) : ∀ (k i : Nat) (n : Int), 0 ≤ n → 0 ≤ (dgs l k i n).1 ∧ (dgs l k i n).1 + 1 ≤ (n + 1) * 16 ^ k ∧ -1 ≤ (dgs l k i n).2 := by
  intro k
  induction k with
  | zero => intro i n h; simp [dgs]; exact h
  | succ k ih =>
    intro i n h
    rw [dgs]
    have hp : (0 : Int) < 16 ^ (k + 1) := Int.pow_pos (by omega)
    split
    · refine ⟨by simp, ?_, by simp; try omega⟩
      have : 1 * 1 ≤ (n + 1) * 16 ^ (k + 1) := Int.mul_le_mul (by omega) (by omega) (by omega) (by omega)
      simpa using this
    · have hlt := hx_lt l i
      obtain ⟨a, b, c⟩ := ih (i + 1) (16 * n + hx l i) (by omega)
      refine ⟨a, ?_, c⟩
      have hk : (0 : Int) < 16 ^ k := Int.pow_pos (by omega)
      have : (16 * n + hx l i + 1) * 16 ^ k ≤ (n + 1) * 16 * 16 ^ k := Int.mul_le_mul_of_nonneg_right (by omega) (by omega)
      rw [Int.mul_assoc, ← Int.pow_succ'] at this
      omega
theorem unitL_rng (l : List UInt8) (a : Nat) : 0 ≤ (unitL l a).1 ∧ (unitL l a).1 < 65536 ∧ -1 ≤ (unitL l a).2 := by
  unfold unitL
  rw [uRest]
  split
  · exact ⟨by simp, by simp, by simp; try omega⟩
  · split
    · exact ⟨by simp, by simp, by simp; try omega⟩
    · have := dgs_rng l 4 (a + 2) 0 (by omega)
      simp at this ⊢
      omega
theorem dgs_pos (l : List UInt8) : ∀ (k i : Nat) (n : Int), (dgs l k i n).2 = -1 ∨ ((dgs l k i n).1 = 0 ∧ (i : Int) ≤ (dgs l k i n).2 ∧ (dgs l k i n).2 < i + k) := by
  intro k
  induction k with
  | zero => intro i n; simp [dgs]
  | succ k ih =>
    intro i n
    rw [dgs]
    split
    · simp; omega
    · rcases ih (i + 1) (16 * n + hx l i) with h | ⟨a, b, c⟩
      · exact .inl h
      · right; refine ⟨a, by omega, by omega⟩

/-- The rune of an escape at a place: it, how many bytes it takes; what is wrong, where. -/
def runeL (l : List UInt8) (a : Nat) : Int × Int × Int × Int :=
  if 0 ≤ (unitL l a).2 then (0, 0, 3, (unitL l a).2)
  else if (unitL l a).1 < 55296 ∨ 57344 ≤ (unitL l a).1 then ((unitL l a).1, 6, 0, 0)
  else if 56320 ≤ (unitL l a).1 ∨ 0 ≤ (unitL l (a + 6)).2 ∨ (unitL l (a + 6)).1 < 56320 ∨ 57344 ≤ (unitL l (a + 6)).1 then (0, 0, 6, (a : Int))
  else (65536 + ((unitL l a).1 - 55296) * 1024 + (unitL l (a + 6)).1 - 56320, 12, 0, 0)

theorem wrong_any (k : Int) (w : World) : Calls Tryd.prog 17 #[.int .i64 k] w fun e w' => e = .returned (.agg #[.int .i64 3, .int .i64 k]) ∧ Below w.heap.size w w' := by
  go_enter Tryd.func17, Tryd.ntmps17
  go_wp2
  exact bodyPost_ret (v := .agg #[.int .i64 3, .int .i64 k]) (by simp [results, Tryd.results17, go_sem]) rfl ⟨rfl, below_new1 _ _⟩

theorem unit_at (s : ByteArray) (hs : s.size ≤ 1073741824) (a : Int) (k : Nat) (ha : a = k) (hat : k ≤ 1073741824) (n b : Int) (h : unitL s.data.toList k = (n, b)) (w : World) (hG : Glob w) :
    Calls Tryd.prog 35 #[.string s, .int .i64 a] w fun e w' => e = .returned (.tuple #[.int .i64 n, .int .i64 b]) ∧ Below w.heap.size w w' := by
  subst ha
  have := unit_any s hs k hat w hG
  rwa [h] at this

set_option maxRecDepth 100000 in
set_option maxHeartbeats 1000000 in
theorem runeAt_bad (s : ByteArray) (hs : s.size ≤ 1073741824) (a : Nat) (hat : a ≤ 1073741000) (n b : Int) (hu : Hid (unitL s.data.toList a = (n, b))) (c1 : 0 ≤ b) (w : World) (hG : Glob w) :
    Calls Tryd.prog 30 #[.string s, .int .i64 a] w fun e w' => e = .returned (.tuple #[.int .i64 0, .int .i64 0, .agg #[.int .i64 3, .int .i64 b]]) ∧ Below w.heap.size w w' := by
  have HG := Lib.hid hG; clear hG
  have hbF := below_new1 w (.cells #[.int .i64 0, .int .i64 0] 26)
  go_enter Tryd.func30, Tryd.ntmps30
  go_wp2_with (first | (go_at_call 35; ((with_reducible refine (unit_at s hs (a : Int) a rfl (by omega) n b hu.out _ (HG.out.keep hbF (Nat.le_refl _))).mono ?_); rintro e w1 ⟨rfl, hb1⟩; have hF := blk_later (heap_new1 w _) hb1 (by simp); have f0 : w1.cell? ⟨w.heap.size, 0, none⟩ = some (.int .i64 0) := blk_cell hF 0; have f1 : w1.cell? ⟨w.heap.size, 1, none⟩ = some (.int .i64 0) := blk_cell hF 1; have g0 := blk_frozen hF 0; have g1 := blk_frozen hF 1; have hlt2 := blk_lt hF)) | (go_at_call 17; ((with_reducible refine (wrong_any _ _).mono ?_); rintro e w2 ⟨rfl, hb2⟩; clear f0 f1 g0 g1; replace hF := blk_later hF hb2 hlt2; have f0 : w2.cell? ⟨w.heap.size, 0, none⟩ = some (.int .i64 0) := blk_cell hF 0; have f1 : w2.cell? ⟨w.heap.size, 1, none⟩ = some (.int .i64 0) := blk_cell hF 1; have g0 := blk_frozen hF 0; have g1 := blk_frozen hF 1; have hlt3 := blk_lt hF)))
  refine bodyPost_ret (v := .tuple #[.int .i64 0, .int .i64 0, .agg #[.int .i64 3, .int .i64 b]]) (by simp [results, Tryd.results30, go_sem, f0, f1]) rfl ⟨rfl, ?_⟩
  have hb := (hbF.trans (hb1.mono hbF.size))
  exact ((hb.trans (hb2.mono hb.size)).setCell (by simp) _).setCell (by simp) _

set_option maxRecDepth 100000 in
set_option maxHeartbeats 1000000 in
theorem runeAt_one (s : ByteArray) (hs : s.size ≤ 1073741824) (a : Nat) (hat : a ≤ 1073741000) (n b : Int) (hu : Hid (unitL s.data.toList a = (n, b))) (c1 : b < 0) (n0 : 0 ≤ n) (n1 : n < 65536) (c2 : n < 55296 ∨ 57344 ≤ n) (w : World) (hG : Glob w) :
    Calls Tryd.prog 30 #[.string s, .int .i64 a] w fun e w' => e = .returned (.tuple #[.int .i64 n, .int .i64 6, .agg #[.int .i64 0, .int .i64 0]]) ∧ Below w.heap.size w w' := by
  have HG := Lib.hid hG; clear hG
  have hbF := below_new1 w (.cells #[.int .i64 0, .int .i64 0] 26)
  rcases c2 with c2 | c2
  all_goals
    go_enter Tryd.func30, Tryd.ntmps30
    go_wp2_with (go_at_call 35; ((with_reducible refine (unit_at s hs (a : Int) a rfl (by omega) n b hu.out _ (HG.out.keep hbF (Nat.le_refl _))).mono ?_); rintro e w1 ⟨rfl, hb1⟩; have hF := blk_later (heap_new1 w _) hb1 (by simp); have f0 : w1.cell? ⟨w.heap.size, 0, none⟩ = some (.int .i64 0) := blk_cell hF 0; have f1 : w1.cell? ⟨w.heap.size, 1, none⟩ = some (.int .i64 0) := blk_cell hF 1; have g0 := blk_frozen hF 0; have g1 := blk_frozen hF 1; have hlt2 := blk_lt hF))
    go_region
    all_goals (
      go_wp2
      refine bodyPost_ret (v := .tuple #[.int .i64 n, .int .i64 6, .agg #[.int .i64 0, .int .i64 0]]) (by simp [results, Tryd.results30, go_sem, f0, f1]) rfl ⟨rfl, ?_⟩
      have hb := (hbF.trans (hb1.mono hbF.size))
      repeat (first | exact hb | refine Below.drew ?_ | refine Below.setCell ?_ (by simp) _))

set_option maxRecDepth 100000 in
set_option maxHeartbeats 1000000 in
theorem runeAt_half (s : ByteArray) (hs : s.size ≤ 1073741824) (a : Nat) (hat : a ≤ 1073741000) (n b : Int) (hu : Hid (unitL s.data.toList a = (n, b))) (m b2 : Int) (hv : Hid (unitL s.data.toList (a + 6) = (m, b2))) (c1 : b < 0) (n0 : 0 ≤ n) (n1 : n < 65536) (_m0 : 0 ≤ m) (_m1 : m < 65536) (d1 : 55296 ≤ n) (d2 : n < 57344) (e1 : 56320 ≤ n ∨ (n < 56320 ∧ 0 ≤ b2) ∨ (n < 56320 ∧ b2 < 0 ∧ m < 56320) ∨ (n < 56320 ∧ b2 < 0 ∧ 56320 ≤ m ∧ 57344 ≤ m)) (w : World) (hG : Glob w) :
    Calls Tryd.prog 30 #[.string s, .int .i64 a] w fun e w' => e = .returned (.tuple #[.int .i64 0, .int .i64 0, .agg #[.int .i64 6, .int .i64 a]]) ∧ Below w.heap.size w w' := by
  have HG := Lib.hid hG; clear hG
  have hbF := below_new1 w (.cells #[.int .i64 0, .int .i64 0] 26)
  rcases e1 with e1 | ⟨e1, e2⟩ | ⟨e1, e2, e3⟩ | ⟨e1, e2, e3, e4⟩
  all_goals
    go_enter Tryd.func30, Tryd.ntmps30
    go_wp2_with (first | (go_at_call 35; ((with_reducible refine (unit_at s hs (a : Int) a rfl (by omega) n b hu.out _ (HG.out.keep hbF (Nat.le_refl _))).mono ?_); rintro e w1 ⟨rfl, hb1⟩; have hF := blk_later (heap_new1 w _) hb1 (by simp); have f0 : w1.cell? ⟨w.heap.size, 0, none⟩ = some (.int .i64 0) := blk_cell hF 0; have f1 : w1.cell? ⟨w.heap.size, 1, none⟩ = some (.int .i64 0) := blk_cell hF 1; have g0 := blk_frozen hF 0; have g1 := blk_frozen hF 1; have hlt2 := blk_lt hF)) | (go_at_call 35; ((with_reducible refine (unit_at s hs ((a : Int) + 6) (a + 6) (by simp) (by omega) m b2 hv.out _ ((HG.out.keep hbF (Nat.le_refl _)).keep hb1 (Nat.le_refl _))).mono ?_); rintro e w2 ⟨rfl, hb2⟩; clear f0 f1 g0 g1; replace hF := blk_later hF hb2 hlt2; have f0 : w2.cell? ⟨w.heap.size, 0, none⟩ = some (.int .i64 0) := blk_cell hF 0; have f1 : w2.cell? ⟨w.heap.size, 1, none⟩ = some (.int .i64 0) := blk_cell hF 1; have g0 := blk_frozen hF 0; have g1 := blk_frozen hF 1; have hlt3 := blk_lt hF)))
    refine bodyPost_ret (v := .tuple #[.int .i64 0, .int .i64 0, .agg #[.int .i64 6, .int .i64 a]]) (by simp [results, Tryd.results30, go_sem, f0, f1]) rfl ⟨rfl, ?_⟩
    have hb := (hbF.trans (hb1.mono hbF.size))
    exact ((hb.trans (hb2.mono hb.size)).setCell (by simp) _).setCell (by simp) _

set_option maxRecDepth 100000 in
set_option maxHeartbeats 1000000 in
theorem runeAt_pair (s : ByteArray) (hs : s.size ≤ 1073741824) (a : Nat) (hat : a ≤ 1073741000) (n b : Int) (hu : Hid (unitL s.data.toList a = (n, b))) (m b2 : Int) (hv : Hid (unitL s.data.toList (a + 6) = (m, b2))) (c1 : b < 0) (n0 : 0 ≤ n) (n1 : n < 65536) (m0 : 0 ≤ m) (m1 : m < 65536) (d1 : 55296 ≤ n) (d2 : n < 57344) (k1 : n < 56320) (k2 : b2 < 0) (k3 : 56320 ≤ m) (k4 : m < 57344) (w : World) (hG : Glob w) :
    Calls Tryd.prog 30 #[.string s, .int .i64 a] w fun e w' => e = .returned (.tuple #[.int .i64 (65536 + (n - 55296) * 1024 + m - 56320), .int .i64 12, .agg #[.int .i64 0, .int .i64 0]]) ∧ Below w.heap.size w w' := by
  have HG := Lib.hid hG; clear hG
  have hbF := below_new1 w (.cells #[.int .i64 0, .int .i64 0] 26)
  have w1' : IntKind.i64.wrap (n - 55296) = n - 55296 := IntWalk.i64_in _ (by omega)
  have w2' : IntKind.i64.wrap ((n - 55296) * 1024) = (n - 55296) * 1024 := IntWalk.i64_in _ (by omega)
  have w3' : IntKind.i64.wrap (65536 + (n - 55296) * 1024) = 65536 + (n - 55296) * 1024 := IntWalk.i64_in _ (by omega)
  have w4' : IntKind.i64.wrap (65536 + (n - 55296) * 1024 + m) = 65536 + (n - 55296) * 1024 + m := IntWalk.i64_in _ (by omega)
  have w5' : IntKind.i64.wrap (65536 + (n - 55296) * 1024 + m - 56320) = 65536 + (n - 55296) * 1024 + m - 56320 := IntWalk.i64_in _ (by omega)
  go_enter Tryd.func30, Tryd.ntmps30
  go_wp2_with (first | (go_at_call 35; ((with_reducible refine (unit_at s hs (a : Int) a rfl (by omega) n b hu.out _ (HG.out.keep hbF (Nat.le_refl _))).mono ?_); rintro e w1 ⟨rfl, hb1⟩; have hF := blk_later (heap_new1 w _) hb1 (by simp); have f0 : w1.cell? ⟨w.heap.size, 0, none⟩ = some (.int .i64 0) := blk_cell hF 0; have f1 : w1.cell? ⟨w.heap.size, 1, none⟩ = some (.int .i64 0) := blk_cell hF 1; have g0 := blk_frozen hF 0; have g1 := blk_frozen hF 1; have hlt2 := blk_lt hF)) | (go_at_call 35; ((with_reducible refine (unit_at s hs ((a : Int) + 6) (a + 6) (by simp) (by omega) m b2 hv.out _ ((HG.out.keep hbF (Nat.le_refl _)).keep hb1 (Nat.le_refl _))).mono ?_); rintro e w2 ⟨rfl, hb2⟩; clear f0 f1 g0 g1; replace hF := blk_later hF hb2 hlt2; have f0 : w2.cell? ⟨w.heap.size, 0, none⟩ = some (.int .i64 0) := blk_cell hF 0; have f1 : w2.cell? ⟨w.heap.size, 1, none⟩ = some (.int .i64 0) := blk_cell hF 1; have g0 := blk_frozen hF 0; have g1 := blk_frozen hF 1; have hlt3 := blk_lt hF)))
  go_region
  all_goals (
    go_wp2
    refine bodyPost_ret (v := .tuple #[.int .i64 (65536 + (n - 55296) * 1024 + m - 56320), .int .i64 12, .agg #[.int .i64 0, .int .i64 0]]) (by simp [results, Tryd.results30, go_sem, f0, f1]) rfl ⟨rfl, ?_⟩
    have hb := (hbF.trans (hb1.mono hbF.size))
    have hb' := hb.trans (hb2.mono hb.size)
    repeat (first | exact hb' | refine Below.drew ?_ | refine Below.setCell ?_ (by simp) _))

theorem runeAt_any (s : ByteArray) (hs : s.size ≤ 1073741824) (a : Nat) (hat : a ≤ 1073741000) (r took co fa : Int) (h : runeL s.data.toList a = (r, took, co, fa)) (w : World) (hG : Glob w) :
    Calls Tryd.prog 30 #[.string s, .int .i64 a] w fun e w' => e = .returned (.tuple #[.int .i64 r, .int .i64 took, .agg #[.int .i64 co, .int .i64 fa]]) ∧ Below w.heap.size w w' := by
  obtain ⟨n, b, hu⟩ : ∃ n b, Hid (unitL s.data.toList a = (n, b)) := ⟨(unitL s.data.toList a).1, (unitL s.data.toList a).2, rfl⟩
  obtain ⟨m, b2, hv⟩ : ∃ n b, Hid (unitL s.data.toList (a + 6) = (n, b)) := ⟨(unitL s.data.toList (a + 6)).1, (unitL s.data.toList (a + 6)).2, rfl⟩
  obtain ⟨n0, n1, nb⟩ := unitL_rng s.data.toList a
  obtain ⟨m0, m1, mb⟩ := unitL_rng s.data.toList (a + 6)
  unfold runeL at h
  rw [hu.out] at n0 n1 nb h
  rw [hv.out] at m0 m1 mb h
  dsimp only at n0 n1 nb h m0 m1 mb
  by_cases c1 : 0 ≤ b
  · rw [if_pos c1] at h
    injection h with h1 h; injection h with h2 h; injection h with h3 h4
    subst h1 h2 h3 h4
    exact runeAt_bad s hs a hat n b hu c1 w hG
  · rw [if_neg c1] at h
    by_cases c2 : n < 55296 ∨ 57344 ≤ n
    · rw [if_pos c2] at h
      injection h with h1 h; injection h with h2 h; injection h with h3 h4
      subst h1 h2 h3 h4
      exact runeAt_one s hs a hat n b hu (by omega) n0 n1 c2 w hG
    · rw [if_neg c2] at h
      by_cases c3 : 56320 ≤ n ∨ 0 ≤ b2 ∨ m < 56320 ∨ 57344 ≤ m
      · rw [if_pos c3] at h
        injection h with h1 h; injection h with h2 h; injection h with h3 h4
        subst h1 h2 h3 h4
        exact runeAt_half s hs a hat n b hu m b2 hv (by omega) n0 n1 m0 m1 (by omega) (by omega) (by omega) w hG
      · rw [if_neg c3] at h
        injection h with h1 h; injection h with h2 h; injection h with h3 h4
        subst h1 h2 h3 h4
        exact runeAt_pair s hs a hat n b hu m b2 hv (by omega) n0 n1 m0 m1 (by omega) (by omega) (by omega) (by omega) (by omega) (by omega) w hG

end Go.Proofs.YtpchipmpgoflfaaDoor
