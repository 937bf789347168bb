/- The walk over the reference's units; no statement of the seat is proved here. (Printed by wip/tools/genQuU.py.) -/
import Derived.Test.YtpchipmpgoflfaaDoorQuR
namespace Go.Proofs.YtpchipmpgoflfaaDoor
open Go.RowKit

structure UnitF where
  at_ : Int
  long : Int
  byte : Bool
  n : Int
def UnitF.cells (u : UnitF) : List Value := [.int .i64 u.at_, .int .i64 u.long, .bool u.byte, .int .i64 u.n]
def unitCells (us : List UnitF) : List Value := us.flatMap UnitF.cells
theorem unitCells_len (us : List UnitF) : (unitCells us).length = us.length * 4 := by
  induction us with
  | nil => rfl
  | cons t us ih => simp [unitCells, UnitF.cells] at ih ⊢; omega
theorem unitCells_snoc (us : List UnitF) (u : UnitF) : unitCells (us ++ [u]) = unitCells us ++ u.cells := by simp [unitCells]
theorem unit_info : (Tryd.prog.info? 54).map (fun i => (i.zero, i.size, i.bytes)) = some (some (.agg #[.int .i64 0, .int .i64 0, .bool false, .int .i64 0]), 4, 32) := by kernel_rfl
theorem unit_own {w : World} {base : Nat} {e : TypeId} {A : Option Addr} {c : Nat} {us : List UnitF} {u : UnitF} (h : w.ownsRow base e 4 (.slice A (us.length + 1) c) (us.length + 1) (unitCells us ++ u.cells)) : w.ownsRow base e 4 (.slice A (us ++ [u]).length c) (us ++ [u]).length (unitCells (us ++ [u])) := by
  rw [unitCells_snoc, List.length_append]; exact h

/-- The units from a place on, and where it is none any more. -/
def unitsL (l : List UInt8) (i : Nat) : List UnitF × Int :=
  if h : i < l.length then
    if l[i].toNat = 34 then ([], if i + 1 < l.length then (i : Int) + 1 else -1)
    else if l[i].toNat < 32 then ([], (i : Int))
    else if l[i].toNat ≠ 92 then (⟨i, 1, true, l[i].toNat⟩ :: (unitsL l (i + 1)).1, (unitsL l (i + 1)).2)
    else if l.length ≤ i + 1 then ([], (l.length : Int))
    else if 0 ≤ shortI (bt l (i + 1)) 0 then (⟨i, 2, true, shortI (bt l (i + 1)) 0⟩ :: (unitsL l (i + 2)).1, (unitsL l (i + 2)).2)
    else if bt l (i + 1) ≠ 117 then ([], (i : Int) + 1)
    else if 0 ≤ (dgs l 4 (i + 2) 0).2 then ([], (dgs l 4 (i + 2) 0).2)
    else (⟨i, 6, false, (dgs l 4 (i + 2) 0).1⟩ :: (unitsL l (i + 6)).1, (unitsL l (i + 6)).2)
  else ([], (l.length : Int))
termination_by l.length - i
def unitsQ (l : List UInt8) : List UnitF × Int := if l.length = 0 then ([], 0) else if bt l 0 ≠ 34 then ([], 0) else unitsL l 1

theorem shortI_ge (c k : Nat) : shortI c k = -1 ∨ (0 ≤ shortI c k ∧ shortI c k ≤ 255) := by
  unfold shortI shortFrom
  split
  · rename_i b hb
    right
    simp only [Option.map_eq_some_iff] at hb
    obtain ⟨x, hx, rfl⟩ := hb
    have := List.mem_of_find?_eq_some hx
    have hm := List.mem_of_mem_drop this
    simp [shortT] at hm
    rcases hm with rfl | rfl | rfl | rfl | rfl | rfl | rfl | rfl <;> simp
  · exact .inl rfl
theorem rshort_at (c : UInt8) (b : Int) (h : shortI c.toNat 0 = b) (w : World) : Calls Tryd.prog 31 #[.int .u8 ((c.toNat : Nat) : Int)] w fun e w' => e = .returned (.int .i64 b) ∧ w = w' := by
  subst h; exact rshort_any c w
theorem rdigit_at (c : UInt8) (b : Int) (h : hexD c = b) (w : World) : Calls Tryd.prog 32 #[.int .u8 ((c.toNat : Nat) : Int)] w fun e w' => e = .returned (.int .i64 b) ∧ w = w' := by
  subst h; exact rdigit_any c w

theorem beq_t {a b : Int} (h : a = b) : (a == b) = true := by simp [h]
theorem beq_f {a b : Int} (h : a ≠ b) : (a == b) = false := by simpa using h
theorem bne_t {a b : Int} (h : a ≠ b) : (a != b) = true := by simpa using h
theorem bne_f {a b : Int} (h : a = b) : (a != b) = false := by simp [h]
section
variable {s : ByteArray} {i : Nat}
theorem uL_end (h : s.size ≤ i) : unitsL s.data.toList i = ([], (s.size : Int)) := by rw [unitsL, dif_neg (by simpa using h)]; simp
theorem uL_quote (h : i < s.size) (h1 : s[i].toNat = 34) : unitsL s.data.toList i = ([], if i + 1 < s.size then (i : Int) + 1 else -1) := by
  have hl : i < s.data.toList.length := by simpa using h
  have e : s.data.toList[i] = s[i] := rfl
  rw [unitsL, dif_pos hl, e, if_pos h1]; simp
theorem uL_ctl (h : i < s.size) (h1 : s[i].toNat < 32) : unitsL s.data.toList i = ([], (i : Int)) := by
  have hl : i < s.data.toList.length := by simpa using h
  have e : s.data.toList[i] = s[i] := rfl
  rw [unitsL, dif_pos hl, e, if_neg (by omega), if_pos h1]
theorem uL_byte (h : i < s.size) (h1 : 32 ≤ s[i].toNat) (h2 : s[i].toNat ≠ 34) (h3 : s[i].toNat ≠ 92) : unitsL s.data.toList i = (⟨i, 1, true, (s[i].toNat : Int)⟩ :: (unitsL s.data.toList (i + 1)).1, (unitsL s.data.toList (i + 1)).2) := by
  have hl : i < s.data.toList.length := by simpa using h
  have e : s.data.toList[i] = s[i] := rfl
  rw [unitsL, dif_pos hl, e, if_neg (by omega), if_neg (by omega), if_pos h3]
theorem uL_esc (h : i < s.size) (h1 : s[i].toNat = 92) : unitsL s.data.toList i = (if s.size ≤ i + 1 then ([], (s.size : Int))
    else if 0 ≤ shortI (bt s.data.toList (i + 1)) 0 then (⟨i, 2, true, shortI (bt s.data.toList (i + 1)) 0⟩ :: (unitsL s.data.toList (i + 2)).1, (unitsL s.data.toList (i + 2)).2)
    else if bt s.data.toList (i + 1) ≠ 117 then ([], (i : Int) + 1)
    else if 0 ≤ (dgs s.data.toList 4 (i + 2) 0).2 then ([], (dgs s.data.toList 4 (i + 2) 0).2)
    else (⟨i, 6, false, (dgs s.data.toList 4 (i + 2) 0).1⟩ :: (unitsL s.data.toList (i + 6)).1, (unitsL s.data.toList (i + 6)).2)) := by
  have hl : i < s.data.toList.length := by simpa using h
  have e : s.data.toList[i] = s[i] := rfl
  have e2 : s.data.toList.length = s.size := by simp
  conv => lhs; rw [unitsL, dif_pos hl, e, if_neg (by omega), if_neg (by omega), if_neg (by omega), e2]
end
theorem units_on {R : List UnitF × Int} {us : List UnitF} {u : UnitF} {r q : List UnitF × Int} (h : R = (us ++ r.1, r.2)) (e : r = (u :: q.1, q.2)) : R = ((us ++ [u]) ++ q.1, q.2) := by
  rw [h, e]; simp
theorem units_stop {R : List UnitF × Int} {us : List UnitF} {r : List UnitF × Int} {x : Int} (h : R = (us ++ r.1, r.2)) (e : r = ([], x)) : R = (us, x) := by
  rw [h, e]; simp

/-- What units returns. -/
def UnPost (R : List UnitF × Int) (w : World) (e : Ending) (w' : World) : Prop :=
  ∃ A' c', e = .returned (.tuple #[.slice A' R.1.length c', .int .i64 R.2]) ∧ w'.ownsRow w.heap.size 54 4 (.slice A' R.1.length c') R.1.length (unitCells R.1) ∧ Below w.heap.size w w'
theorem ret_units {A : Option Addr} {n c : Nat} {a b : Int} (h : a = b) : Ending.returned (.tuple #[.slice A n c, .int .i64 a]) = .returned (.tuple #[.slice A n c, .int .i64 b]) := by rw [h]

set_option maxRecDepth 100000 in
set_option maxHeartbeats 2000000 in
theorem units_any (s : ByteArray) (hs : s.size ≤ 16777216) (w : World) :
    Calls Tryd.prog 22 #[.string s] w (UnPost (unitsQ s.data.toList) w) := by
  obtain ⟨i0, hi, hz0, hz1, hz2⟩ := info_parts unit_info
  have hsl : s.data.toList.length = s.size := by simp
  by_cases hne : s.size = 0
  · have hR : Hid (unitsQ s.data.toList = ([], 0)) := by
      show _ = _
      rw [unitsQ, if_pos (by simpa using hne)]
    have hb : ((s.size : Int) == 0) = true := beq_t (by omega)
    clear hsl hne
    go_enter Tryd.func22, Tryd.ntmps22
    go_wp2
    go_ret2
    rw [hR.out]
    exact ⟨none, 0, rfl, World.ownsRow_nil _ _ _ _, Below.refl _ _⟩
  have hpos : 0 < s.size := by omega
  by_cases hq : (s[0]'hpos).toNat = 34
  · have hR : Hid (unitsQ s.data.toList = unitsL s.data.toList 1) := by
      show _ = _
      rw [unitsQ, if_neg (by simpa using hne), if_neg (by rw [bt_str hpos]; simpa using hq)]
    have hb : ((s.size : Int) == 0) = false := beq_f (by omega)
    have b0 : (((s[0]'hpos).toNat : Int) != 34) = false := bne_f (by omega)
    have HSL := Lib.hid hsl; clear hsl hq hne
    go_enter Tryd.func22, Tryd.ntmps22
    go_wp2
    go_loopg [4, 5, 6, 7, 8] (s.size - 1) (fun g s4 s5 s6 s7 s8 wr => ∃ i : Nat, ∃ us : List UnitF, ∃ A' c', s5 = .int .i64 i ∧ s4 = .slice A' us.length c' ∧ 1 ≤ i ∧ i ≤ s.size + 8 ∧ us.length ≤ i ∧ Hid (g = s.size - i) ∧ Hid (unitsQ s.data.toList = (us ++ (unitsL s.data.toList i).1, (unitsL s.data.toList i).2)) ∧ Hid (wr.ownsRow w.heap.size 54 4 (.slice A' us.length c') us.length (unitCells us)) ∧ Below w.heap.size w wr)
    case atStart => exact ⟨1, [], none, 0, rfl, rfl, by omega, by omega, by simp, rfl, by show _ = _; rw [hR.out]; simp, World.ownsRow_nil _ _ _ _, Below.refl _ _⟩
    case round =>
      obtain ⟨i, us, A', c', rfl, rfl, hi1, hi2, hul, hg, hr, hown, hbw⟩ := hrel
      have hsz := hbw.size
      have H6 : Hid (∀ o, w.heap.size ≤ (wr.alloc o).heap.size) := by intro o; simp; omega
      by_cases hin : i < s.size
      · by_cases hqu : s[i].toNat = 34
        · have bq : ((s[i].toNat : Int) == 34) = true := beq_t (by omega)
          by_cases hl1 : i + 1 < s.size
          · have hres : Hid (unitsQ s.data.toList = (us, (i : Int) + 1)) := units_stop hr.out (by rw [uL_quote hin hqu, if_pos hl1])
            clear hqu
            go_wp2
            go_ret2
            rw [hres.out]
            exact ⟨A', c', rfl, hown.out, hbw⟩
          · have hres : Hid (unitsQ s.data.toList = (us, -1)) := units_stop hr.out (by rw [uL_quote hin hqu, if_neg hl1])
            clear hqu
            go_wp2
            go_ret2
            rw [hres.out]
            exact ⟨A', c', rfl, hown.out, hbw⟩
        have bq : ((s[i].toNat : Int) == 34) = false := beq_f (by omega)
        by_cases hctl : s[i].toNat < 32
        · have hres : Hid (unitsQ s.data.toList = (us, (i : Int))) := units_stop hr.out (uL_ctl hin hctl)
          clear hqu
          go_wp2
          go_ret2
          rw [hres.out]
          exact ⟨A', c', rfl, hown.out, hbw⟩
        by_cases hes : s[i].toNat = 92
        · have be : ((s[i].toNat : Int) != 92) = false := bne_f (by omega)
          have hesc := Lib.hid (uL_esc hin hes)
          clear hqu hes
          by_cases hl1 : s.size ≤ i + 1
          · have hres : Hid (unitsQ s.data.toList = (us, (s.size : Int))) := units_stop hr.out (by rw [hesc.out, if_pos hl1])
            go_wp2
            go_ret2
            rw [hres.out]
            exact ⟨A', c', rfl, hown.out, hbw⟩
          · have hin1 : i + 1 < s.size := by omega
            have hbt := Lib.hid (bt_str hin1)
            obtain ⟨b, hb⟩ : ∃ b, Hid (shortI (s[i + 1]'hin1).toNat 0 = b) := ⟨_, rfl⟩
            have hbr : b = -1 ∨ (0 ≤ b ∧ b ≤ 255) := by rw [← hb.out]; exact shortI_ge _ _
            have HSH : Hid (shortI (s[i + 1]'hin1).toNat 0 = b) := hb
            by_cases hsh : 0 ≤ b
            · have hr' : Hid (unitsQ s.data.toList = ((us ++ [⟨i, 2, true, b⟩]) ++ (unitsL s.data.toList (i + 2)).1, (unitsL s.data.toList (i + 2)).2)) :=
                units_on hr.out (by rw [hesc.out, if_neg hl1, hbt.out, hb.out, if_pos hsh])
              clear hbr
              have H3 : Hid (∀ u ∈ ([.int .i64 i, .int .i64 2, .bool true, .int .i64 b] : List Value), u.oneCell' = true) := by intro u hu; simp at hu; rcases hu with rfl | rfl | rfl | rfl <;> rfl
              go_wp2_with (first
                | (go_at_call 31; (with_reducible refine (rshort_at _ _ HSH.out _).mono ?_); rintro e w2 ⟨rfl, rfl⟩)
                | (at_builtin; refine wpList_append_own _ rfl (.tmp 73) (.tmp 81) 50 rfl w.heap.size 54 i0 _ 4 32 Tryd.underlying50 hi hz0 hz1 hz2 rfl (by decide) (.slice A' us.length c') us.length (unitCells us) rfl (own_keep hown.out (below_new1 wr _) (Nat.le_refl _)) ⟨wr.heap.size, 0, none⟩ 1 1 [.int .i64 i, .int .i64 2, .bool true, .int .i64 b] rfl rfl (news_at (heap_new1 wr _)) H3.out (by simp only [maxLen]; omega) (by omega) (H6.out _) ?_))
              intro v2 w2 hown2 hgr2 _
              obtain ⟨A2, c2, rfl, hc2⟩ := own_slice hown2
              have HO := Lib.hid (unit_own (u := (UnitF.mk (i : Int) 2 true b)) hown2); clear hown2
              have HB := Lib.hid (((hbw.alloc hsz _).grown hgr2 (by simp; omega) (fun q hq => (hown.out.lt q hq).1) : Below w.heap.size w w2)); clear hgr2
              go_wp2
              go_roundg (s.size - (i + 2))
              case measure => have := hg.out; omega
              case rel => exact ⟨i + 2, us ++ [(UnitF.mk (i : Int) 2 true b)], A2, c2, by go_num, by simp, by omega, by omega, by simp; omega, rfl, hr', HO.out, HB.out⟩
            · have hsh' : b < 0 := by omega
              by_cases hu : (s[i + 1]'hin1).toNat = 117
              · have bu : (((s[i + 1]'hin1).toNat : Int) != 117) = false := bne_f (by omega)
                have hesc2 : Hid (unitsL s.data.toList i = if 0 ≤ (dgs s.data.toList 4 (i + 2) 0).2 then ([], (dgs s.data.toList 4 (i + 2) 0).2)
                    else (⟨i, 6, false, (dgs s.data.toList 4 (i + 2) 0).1⟩ :: (unitsL s.data.toList (i + 6)).1, (unitsL s.data.toList (i + 6)).2)) := by
                  show _ = _
                  rw [hesc.out, if_neg hl1, hbt.out, hb.out, if_neg hsh, if_neg (by omega)]
                clear hbr hu
                go_wp2_with (go_at_call 31; (with_reducible refine (rshort_at _ _ HSH.out _).mono ?_); rintro e w2 ⟨rfl, rfl⟩)
                go_loopg [6, 7, 8] 4 (fun gg s6 s7 s8 wq => ∃ k : Nat, ∃ n : Int, s7 = .int .i64 k ∧ s6 = .int .i64 n ∧ k ≤ 4 ∧ i + 2 + k ≤ s.size ∧ 0 ≤ n ∧ n < 65536 ∧ Hid (n < 16 ^ k) ∧ Hid (gg = 4 - k) ∧ Hid (dgs s.data.toList (4 - k) (i + 2 + k) n = dgs s.data.toList 4 (i + 2) 0) ∧ wq = wr)
                case atStart => exact ⟨0, 0, rfl, rfl, by omega, by omega, by omega, by omega, by simp [Hid], rfl, rfl, rfl⟩
                case round =>
                  obtain ⟨k, n, rfl, rfl, hk4, hks, hn0, hn1, hn16, hgg, hd, rfl⟩ := hrel
                  by_cases hk : k < 4
                  · obtain ⟨m, hm⟩ : ∃ m, Hid (4 - k = m + 1) := ⟨3 - k, (by show _ = _; omega)⟩
                    have hd' : Hid ((if hx s.data.toList (i + 2 + k) < 0 then (0, ((i + 2 + k : Nat) : Int)) else dgs s.data.toList m (i + 2 + k + 1) (16 * n + hx s.data.toList (i + 2 + k))) = dgs s.data.toList 4 (i + 2) 0) := by
                      show _ = _
                      rw [← hd.out, hm.out, dgs]
                    by_cases hin2 : i + 2 + k < s.size
                    · obtain ⟨d, hdd⟩ : ∃ d, Hid (hexD (s[i + 2 + k]'hin2) = d) := ⟨_, rfl⟩
                      have hd16 : d < 16 ∧ -1 ≤ d := by rw [← hdd.out]; exact hexD_lt _
                      have hxx : Hid (hx s.data.toList (i + 2 + k) = d) := by show _ = _; rw [hx_str hin2, hdd.out]
                      by_cases hdn : d < 0
                      · have hres : Hid (unitsQ s.data.toList = (us, (i : Int) + 2 + k)) := by
                          refine units_stop hr.out ?_
                          have h := hd'.out
                          rw [hxx.out, if_pos hdn] at h
                          rw [hesc2.out, ← h, if_pos (by simp; omega)]
                          simp
                        go_wp2_with (go_at_call 32; (with_reducible refine (rdigit_at _ _ hdd.out _).mono ?_); rintro e w2 ⟨rfl, rfl⟩)
                        go_ret2
                        rw [hres.out]
                        exact ⟨A', c', rfl, hown.out, hbw⟩
                      · have hr2 : Hid (dgs s.data.toList (4 - (k + 1)) (i + 2 + (k + 1)) (16 * n + d) = dgs s.data.toList 4 (i + 2) 0) := by
                          show _ = _
                          have h := hd'.out
                          rw [hxx.out, if_neg hdn] at h
                          rw [← h, show 4 - (k + 1) = m by have := hm.out; omega]; rfl
                        have h16 : Hid (16 * n + d < 16 ^ (k + 1)) := by
                          show _ < _
                          have h := hn16.out
                          rw [Int.pow_succ]
                          omega
                        have hn4 : n < 4096 := by
                          have h := hn16.out
                          have : (16 : Int) ^ k ≤ 16 ^ 3 := by
                            have h3 : k ≤ 3 := by omega
                            exact_mod_cast Nat.pow_le_pow_right (n := 16) (by omega) h3
                          omega
                        go_wp2_with (go_at_call 32; (with_reducible refine (rdigit_at _ _ hdd.out _).mono ?_); rintro e w2 ⟨rfl, rfl⟩)
                        go_roundg (4 - (k + 1))
                        case measure => have := hgg.out; omega
                        case rel => exact ⟨k + 1, 16 * n + d, by go_num, rfl, by omega, by omega, by omega, by omega, h16, rfl, hr2, rfl⟩
                    · have hlen : Hid ((i : Int) + 2 + k = (s.size : Int)) := by show _ = _; omega
                      have hres : Hid (unitsQ s.data.toList = (us, (s.size : Int))) := by
                        refine units_stop hr.out ?_
                        have h := hd'.out
                        rw [hx_str_ge (by omega), if_pos (by omega)] at h
                        rw [hesc2.out, ← h, if_pos (by simp; omega)]
                        have := hlen.out
                        simp; omega
                      go_wp2
                      go_ret2
                      rw [hres.out]
                      exact ⟨A', c', rfl, hown.out, hbw⟩
                  · obtain rfl : k = 4 := by omega
                    have hdn : Hid (dgs s.data.toList 4 (i + 2) 0 = (n, -1)) := by
                      show _ = _
                      rw [← hd.out]; rfl
                    have hr' : Hid (unitsQ s.data.toList = ((us ++ [⟨i, 6, false, n⟩]) ++ (unitsL s.data.toList (i + 6)).1, (unitsL s.data.toList (i + 6)).2)) :=
                      units_on hr.out (by rw [hesc2.out, hdn.out, if_neg (by simp)])
                    have H3 : Hid (∀ u ∈ ([.int .i64 i, .int .i64 6, .bool false, .int .i64 n] : List Value), u.oneCell' = true) := by intro u hu; simp at hu; rcases hu with rfl | rfl | rfl | rfl <;> rfl
                    go_wp2_with (first
                      | (go_at_call 31; (with_reducible refine (rshort_at _ _ HSH.out _).mono ?_); rintro e w2 ⟨rfl, rfl⟩)
                      | (at_builtin; refine wpList_append_own _ rfl (.tmp 125) (.tmp 129) 50 rfl w.heap.size 54 i0 _ 4 32 Tryd.underlying50 hi hz0 hz1 hz2 rfl (by decide) (.slice A' us.length c') us.length (unitCells us) rfl (own_keep hown.out (below_new1 wr _) (Nat.le_refl _)) ⟨wr.heap.size, 0, none⟩ 1 1 [.int .i64 i, .int .i64 6, .bool false, .int .i64 n] rfl rfl (news_at (heap_new1 wr _)) H3.out (by simp only [maxLen]; omega) (by omega) (H6.out _) ?_))
                    intro v2 w2 hown2 hgr2 _
                    obtain ⟨A2, c2, rfl, hc2⟩ := own_slice hown2
                    have HO := Lib.hid (unit_own (u := (UnitF.mk (i : Int) 6 false n)) hown2); clear hown2
                    have HB := Lib.hid (((hbw.alloc hsz _).grown hgr2 (by simp; omega) (fun q hq => (hown.out.lt q hq).1) : Below w.heap.size w w2)); clear hgr2
                    go_wp2
                    go_roundg (s.size - (i + 6))
                    case measure => have := hg.out; omega
                    case rel => exact ⟨i + 6, us ++ [(UnitF.mk (i : Int) 6 false n)], A2, c2, by go_num, by simp, by omega, by omega, by simp; omega, rfl, hr', HO.out, HB.out⟩
              · have bu : (((s[i + 1]'hin1).toNat : Int) != 117) = true := bne_t (by omega)
                have hres : Hid (unitsQ s.data.toList = (us, (i : Int) + 1)) := units_stop hr.out (by rw [hesc.out, if_neg hl1, hbt.out, hb.out, if_neg hsh, if_pos hu])
                clear hbr hu
                go_wp2_with (go_at_call 31; (with_reducible refine (rshort_at _ _ HSH.out _).mono ?_); rintro e w2 ⟨rfl, rfl⟩)
                go_ret2
                rw [hres.out]
                exact ⟨A', c', rfl, hown.out, hbw⟩
        · have be : ((s[i].toNat : Int) != 92) = true := bne_t (by omega)
          have hr' : Hid (unitsQ s.data.toList = ((us ++ [⟨i, 1, true, (s[i].toNat : Int)⟩]) ++ (unitsL s.data.toList (i + 1)).1, (unitsL s.data.toList (i + 1)).2)) :=
            units_on hr.out (uL_byte hin (by omega) hqu hes)
          have h255 := s[i].toNat_lt
          clear hqu hes
          have H3 : Hid (∀ u ∈ ([.int .i64 i, .int .i64 1, .bool true, .int .i64 (s[i].toNat : Int)] : List Value), u.oneCell' = true) := by intro u hu; simp at hu; rcases hu with rfl | rfl | rfl | rfl <;> rfl
          go_wp2_with (first
            | (go_at_call 31; (with_reducible refine (rshort_at _ _ HSH.out _).mono ?_); rintro e w2 ⟨rfl, rfl⟩)
            | (at_builtin; refine wpList_append_own _ rfl (.tmp 48) (.tmp 55) 50 rfl w.heap.size 54 i0 _ 4 32 Tryd.underlying50 hi hz0 hz1 hz2 rfl (by decide) (.slice A' us.length c') us.length (unitCells us) rfl (own_keep hown.out (below_new1 wr _) (Nat.le_refl _)) ⟨wr.heap.size, 0, none⟩ 1 1 [.int .i64 i, .int .i64 1, .bool true, .int .i64 (s[i].toNat : Int)] rfl rfl (news_at (heap_new1 wr _)) H3.out (by simp only [maxLen]; omega) (by omega) (H6.out _) ?_))
          intro v2 w2 hown2 hgr2 _
          obtain ⟨A2, c2, rfl, hc2⟩ := own_slice hown2
          have HO := Lib.hid (unit_own (u := (UnitF.mk (i : Int) 1 true (s[i].toNat : Int))) hown2); clear hown2
          have HB := Lib.hid (((hbw.alloc hsz _).grown hgr2 (by simp; omega) (fun q hq => (hown.out.lt q hq).1) : Below w.heap.size w w2)); clear hgr2
          go_wp2
          go_roundg (s.size - (i + 1))
          case measure => have := hg.out; omega
          case rel => exact ⟨i + 1, us ++ [(UnitF.mk (i : Int) 1 true (s[i].toNat : Int))], A2, c2, by go_num, by simp, by omega, by omega, by simp; omega, rfl, hr', HO.out, HB.out⟩
      · have hres : Hid (unitsQ s.data.toList = (us, (s.size : Int))) := units_stop hr.out (uL_end (by omega))
        go_wp2
        go_ret2
        rw [hres.out]
        exact ⟨A', c', rfl, hown.out, hbw⟩
  · have hR : Hid (unitsQ s.data.toList = ([], 0)) := by
      show _ = _
      rw [unitsQ, if_neg (by simpa using hne), if_pos (by rw [bt_str hpos]; simpa using hq)]
    have hb : ((s.size : Int) == 0) = false := beq_f (by omega)
    have b0 : (((s[0]'hpos).toNat : Int) != 34) = true := bne_t (by omega)
    clear hsl hne hq
    go_enter Tryd.func22, Tryd.ntmps22
    go_wp2
    go_ret2
    rw [hR.out]
    exact ⟨none, 0, rfl, World.ownsRow_nil _ _ _ _, Below.refl _ _⟩

end Go.Proofs.YtpchipmpgoflfaaDoor
