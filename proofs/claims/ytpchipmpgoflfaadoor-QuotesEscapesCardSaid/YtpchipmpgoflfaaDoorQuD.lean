/- Walks over package quotes: escaped; no statement of the seat is proved here. -/
import Derived.Test.YtpchipmpgoflfaaDoorQuC
import Derived.Test.YtpchipmpgoflfaaDoorPut
namespace Go.Proofs.YtpchipmpgoflfaaDoor
open Go.RowKit

def shortT : List (Nat × Nat) := [(34, 34), (92, 92), (47, 47), (98, 8), (102, 12), (110, 10), (114, 13), (116, 9)]
/-- The byte of a short escape's letter, from a row of the table on. -/
def shortFrom (c : Nat) (k : Nat) : Option Nat := ((shortT.drop k).find? fun x => x.1 == c).map (·.2)
theorem shortFrom_yes {c k : Nat} (h : k < shortT.length) (e : shortT[k].1 = c) : shortFrom c k = some shortT[k].2 := by
  unfold shortFrom; rw [List.drop_eq_getElem_cons h, List.find?_cons_of_pos (by simpa using e)]; rfl
theorem shortFrom_no {c k : Nat} (h : k < shortT.length) (e : shortT[k].1 ≠ c) : shortFrom c k = shortFrom c (k + 1) := by
  unfold shortFrom; rw [List.drop_eq_getElem_cons h, List.find?_cons_of_neg (by simpa using e)]
theorem shortFrom_end {c : Nat} : shortFrom c 8 = none := by simp [shortFrom, shortT]

/-- What an escape at a place tells, how many bytes it takes; what is wrong, where. -/
def escL (l : List UInt8) (a : Nat) : List UInt8 × Int × Int × Int :=
  if l.length ≤ a + 1 then ([], 0, 3, (l.length : Int)) else
  match shortFrom (bt l (a + 1)) 0 with
  | some b => ([UInt8.ofNat b], 2, 0, 0)
  | none => (putL [(runeL l a).1], (runeL l a).2.1, (runeL l a).2.2.1, (runeL l a).2.2.2)

/-- A row of the table of short escapes. -/
theorem sh_all (k : Nat) (h : k < 8) : ∃ x y : UInt8, Hid (∃ h : k < shortT.length, shortT[k] = (x.toNat, y.toNat)) ∧ ∀ w, (Instr.index 64 (.agg #[.int .u8 34, .int .u8 34, .int .u8 92, .int .u8 92, .int .u8 47, .int .u8 47, .int .u8 98, .int .u8 8, .int .u8 102, .int .u8 12, .int .u8 110, .int .u8 10, .int .u8 114, .int .u8 13, .int .u8 116, .int .u8 9]) (.int .i64 (k : Int))).run Tryd.prog w = .ok (.agg #[.int .u8 ((x.toNat : Nat) : Int), .int .u8 ((y.toNat : Nat) : Int)]) w := by
  have hk : k = 0 ∨ k = 1 ∨ k = 2 ∨ k = 3 ∨ k = 4 ∨ k = 5 ∨ k = 6 ∨ k = 7 := by omega
  rcases hk with rfl | rfl | rfl | rfl | rfl | rfl | rfl | rfl
  · exact ⟨34, 34, ⟨by decide, rfl⟩, fun _ => by kernel_rfl⟩
  · exact ⟨92, 92, ⟨by decide, rfl⟩, fun _ => by kernel_rfl⟩
  · exact ⟨47, 47, ⟨by decide, rfl⟩, fun _ => by kernel_rfl⟩
  · exact ⟨98, 8, ⟨by decide, rfl⟩, fun _ => by kernel_rfl⟩
  · exact ⟨102, 12, ⟨by decide, rfl⟩, fun _ => by kernel_rfl⟩
  · exact ⟨110, 10, ⟨by decide, rfl⟩, fun _ => by kernel_rfl⟩
  · exact ⟨114, 13, ⟨by decide, rfl⟩, fun _ => by kernel_rfl⟩
  · exact ⟨116, 9, ⟨by decide, rfl⟩, fun _ => by kernel_rfl⟩

/-- What the call leaves: the bytes told, in memory of its own. -/
def EscPost (R : List UInt8 × Int × Int × Int) (w : World) (e : Ending) (w' : World) : Prop :=
  ∃ A' m, e = .returned (.tuple #[.slice A' m m, .int .i64 R.2.1, .agg #[.int .i64 R.2.2.1, .int .i64 R.2.2.2]]) ∧ OwnS w' w.heap.size 5 1 A' m (byteVals R.1) ∧ Below w.heap.size w w'

theorem Glob.cells {w : World} (h : Glob w) : w.cell? ⟨0, 0, none⟩ = some (.int .u8 34) ∧ w.cell? ⟨0, 1, none⟩ = some (.int .u8 34) ∧ w.cell? ⟨0, 2, none⟩ = some (.int .u8 92) ∧ w.cell? ⟨0, 3, none⟩ = some (.int .u8 92) ∧
    w.cell? ⟨0, 4, none⟩ = some (.int .u8 47) ∧ w.cell? ⟨0, 5, none⟩ = some (.int .u8 47) ∧ w.cell? ⟨0, 6, none⟩ = some (.int .u8 98) ∧ w.cell? ⟨0, 7, none⟩ = some (.int .u8 8) ∧
    w.cell? ⟨0, 8, none⟩ = some (.int .u8 102) ∧ w.cell? ⟨0, 9, none⟩ = some (.int .u8 12) ∧ w.cell? ⟨0, 10, none⟩ = some (.int .u8 110) ∧ w.cell? ⟨0, 11, none⟩ = some (.int .u8 10) ∧
    w.cell? ⟨0, 12, none⟩ = some (.int .u8 114) ∧ w.cell? ⟨0, 13, none⟩ = some (.int .u8 13) ∧ w.cell? ⟨0, 14, none⟩ = some (.int .u8 116) ∧ w.cell? ⟨0, 15, none⟩ = some (.int .u8 9) :=
  ⟨h.shorts 0 _ rfl, h.shorts 1 _ rfl, h.shorts 2 _ rfl, h.shorts 3 _ rfl, h.shorts 4 _ rfl, h.shorts 5 _ rfl, h.shorts 6 _ rfl, h.shorts 7 _ rfl, h.shorts 8 _ rfl, h.shorts 9 _ rfl, h.shorts 10 _ rfl, h.shorts 11 _ rfl, h.shorts 12 _ rfl, h.shorts 13 _ rfl, h.shorts 14 _ rfl, h.shorts 15 _ rfl⟩

theorem two_set {w : World} {b : Nat} {u v x y : Value} {t : TypeId} (h : w.heap[b]? = some (.cells #[u, v] t (0, 0))) :
    ((w.setCell ⟨b, 0, none⟩ x).setCell ⟨b, 1, none⟩ y).heap[b]? = some (.cells #[x, y] t (0, 0)) ∧ (∀ B, B ≤ b → Below B w ((w.setCell ⟨b, 0, none⟩ x).setCell ⟨b, 1, none⟩ y)) := by
  refine ⟨?_, fun B hB => ((Below.refl _ _).setCell (p := ⟨b, 0, none⟩) hB _).setCell (p := ⟨b, 1, none⟩) hB _⟩
  simp [World.setCell, Array.getElem?_modify, h]
theorem heap_new2' {w : World} (o p : Obj) (n : Nat) (hn : n = w.heap.size + 1) : ((w.alloc o).alloc p).heap[n]? = some p := by subst hn; exact (heap_new2 w o p).2
theorem IS_one {w : World} {g : Nat} {r : Int} (h : w.cell? ⟨g, 0, none⟩ = some (.int .i64 r)) (hg : g < w.heap.size) : IS w w.heap.size (some ⟨g, 0, none⟩) [r] := by
  intro k hk
  obtain rfl : k = 0 := by simpa using hk
  exact ⟨_, rfl, hg, by simpa [Addr.add] using h⟩

set_option maxRecDepth 100000 in
set_option maxHeartbeats 1000000 in
theorem escaped_any (s : ByteArray) (hs : s.size ≤ 1073741000) (a : Nat) (hat : a < s.size) (w : World) (hG : Glob w) :
    Calls Tryd.prog 20 #[.string s, .int .i64 a] w (EscPost (escL s.data.toList a) w) := by
  have HG := Lib.hid hG
  have hbF := below_new1 w (.cells #[.int .i64 0, .int .i64 0] 26)
  obtain ⟨c0, c1, c2, c3, c4, c5, c6, c7, c8, c9, c10, c11, c12, c13, c14, c15⟩ := (hG.keep hbF (Nat.le_refl _)).cells
  clear hG
  have hsl : s.data.toList.length = s.size := by simp
  by_cases hin : s.size ≤ a + 1
  · have he : escL s.data.toList a = ([], 0, 3, (s.size : Int)) := by rw [escL, hsl, if_pos hin]
    rw [he]
    clear hsl he c0 c1 c2 c3 c4 c5 c6 c7 c8 c9 c10 c11 c12 c13 c14 c15
    go_enter Tryd.func20, Tryd.ntmps20
    go_wp2_with (go_at_call 17; (with_reducible refine (wrong_any _ _).mono ?_); rintro e w2 ⟨rfl, hb2⟩; have hF := blk_later (heap_new1 w _) hb2 (by simp); have f0 : w2.cell? ⟨w.heap.size, 0, none⟩ = some (.int .i64 0) := blk_cell hF 0; have f1 : w2.cell? ⟨w.heap.size, 1, none⟩ = some (.int .i64 0) := blk_cell hF 1; have g0 := blk_frozen hF 0; have g1 := blk_frozen hF 1; have hlt3 := blk_lt hF)
    refine bodyPost_ret (v := .tuple #[.slice none 0 0, .int .i64 0, .agg #[.int .i64 3, .int .i64 s.size]]) (by simp [results, Tryd.results20, go_sem, f0, f1]) rfl ⟨none, 0, rfl, OwnS.nil _ _ _ _ _, ?_⟩
    exact ((hbF.trans (hb2.mono hbF.size)).setCell (by simp) _).setCell (by simp) _
  · have he : escL s.data.toList a = match shortFrom (bt s.data.toList (a + 1)) 0 with
      | some b => ([UInt8.ofNat b], 2, 0, 0)
      | none => (putL [(runeL s.data.toList a).1], (runeL s.data.toList a).2.1, (runeL s.data.toList a).2.2.1, (runeL s.data.toList a).2.2.2) := by rw [escL, hsl, if_neg hin]
    have HE := Lib.hid he; clear he
    clear hsl
    have hin' : a + 1 < s.size := by omega
    have hbt : Hid (bt s.data.toList (a + 1) = s[a + 1].toNat) := bt_str hin'
    go_enter Tryd.func20, Tryd.ntmps20
    go_wp2
    go_loopg [8, 19] 8 (fun g s8 s19 wr => ∃ k : Nat, s19 = .int .i64 k ∧ k ≤ 8 ∧ Hid (g = 8 - k) ∧ Hid (shortFrom s[a + 1].toNat k = shortFrom s[a + 1].toNat 0) ∧ Hid (wr.heap[w.heap.size]? = some (.cells #[.int .i64 0, .int .i64 0] 26 (0, 0))) ∧ Below w.heap.size w wr)
    case atStart => exact ⟨0, rfl, by omega, rfl, rfl, heap_new1 _ _, hbF⟩
    case round =>
      clear c0 c1 c2 c3 c4 c5 c6 c7 c8 c9 c10 c11 c12 c13 c14 c15
      obtain ⟨k, rfl, hk, hg, hr, hF, hbw⟩ := hrel
      have hltF := blk_lt hF.out
      have hi1 : (a : Int) + 1 < s.size := by omega
      have h01 : (0 : Int) ≤ (a : Int) + 1 := by omega
      have hw1 : IntKind.i64.wrap ((a : Int) + 1) = (a : Int) + 1 := IntWalk.i64_in _ (by omega)
      have hn1 : ((a : Int) + 1).toNat = a + 1 := by omega
      have HW := Lib.hid hw1; have HN := Lib.hid hn1; clear hw1 hn1
      by_cases hlt : k < 8
      · obtain ⟨x, y, hxy, hix⟩ := sh_all k hlt
        by_cases heq : s[a + 1].toNat = x.toNat
        · have hb : ((s[a + 1].toNat : Int) == (x.toNat : Int)) = true := by simp; omega
          have hres : Hid (escL s.data.toList a = ([y], 2, 0, 0)) := by
            obtain ⟨h8, e8⟩ := hxy.out
            have h1 := shortFrom_yes (c := s[a + 1].toNat) h8 (by rw [e8]; exact heq.symm)
            rw [hr.out, e8] at h1
            show _ = _
            rw [HE.out, hbt.out, h1]
            simp
          clear heq
          have q0 := blk_cell hF.out 0
          have q1 := blk_cell hF.out 1
          have g0 := blk_frozen hF.out 0
          have g1 := blk_frozen hF.out 1
          have hw1 := HW.out
          have hn1 := HN.out
          go_wp2
          go_region
          all_goals go_wp2
          all_goals go_region
          all_goals (
            go_wp2
            refine bodyPost_ret (v := .tuple #[.slice (some ⟨wr.heap.size + 1, 0, none⟩) 1 1, .int .i64 2, .agg #[.int .i64 0, .int .i64 0]]) (by simp [results, Tryd.results20, go_sem, q0, q1, hltF]) rfl ?_
            rw [hres.out]
            have hsz := hbw.size
            refine ⟨_, 1, rfl, ⟨rfl, fun _ => ⟨wr.heap.size + 1, #[.int .u8 ((y.toNat : Nat) : Int)], rfl, by omega, ?_, rfl⟩⟩, ?_⟩
            · exact heap_new2' _ _ _ (by simp)
            · repeat (first | exact hbw | refine Below.drew ?_ | refine Below.alloc ?_ (by first | omega | (simp; omega) | simp) _ | refine Below.setCell ?_ (by first | omega | (simp; omega) | simp) _))
        · have hb : ((s[a + 1].toNat : Int) == (x.toNat : Int)) = false := by simp; omega
          have hr' : Hid (shortFrom s[a + 1].toNat (k + 1) = shortFrom s[a + 1].toNat 0) := by
            obtain ⟨h8, e8⟩ := hxy.out
            show _ = _
            rw [← hr.out, ← shortFrom_no h8 (by rw [e8]; exact fun h => heq h.symm)]
          clear heq
          have hw1 := HW.out
          have hn1 := HN.out
          go_wp2
          go_region
          all_goals (
            go_wp2
            go_roundg (8 - (k + 1))
            case measure => have := hg.out; omega
            case rel =>
              refine ⟨k + 1, by go_num, by omega, rfl, hr', ?_, hbw.trans ?_⟩
              · exact blk_later hF.out (below_new1 wr _).drew hltF
              · have hsz := hbw.size
                repeat (first | exact Below.refl _ _ | refine Below.drew ?_ | refine Below.alloc ?_ (by first | omega | (simp; omega) | simp) _))
      · obtain ⟨r, took, co, fa, hR⟩ : ∃ r took co fa, Hid (runeL s.data.toList a = (r, took, co, fa)) := ⟨(runeL s.data.toList a).1, (runeL s.data.toList a).2.1, (runeL s.data.toList a).2.2.1, (runeL s.data.toList a).2.2.2, rfl⟩
        have hres : Hid (escL s.data.toList a = (putL [r], took, co, fa)) := by
          obtain rfl : k = 8 := by omega
          have h8 := hr.out
          rw [shortFrom_end] at h8
          show _ = _
          rw [HE.out, hbt.out, ← h8, hR.out]
        go_wp2_with (go_at_call 30; (with_reducible refine (runeAt_any s (by omega) a (by omega) r took co fa hR.out _ (HG.out.keep hbw (Nat.le_refl _))).mono ?_); rintro e w1 ⟨rfl, hb1⟩; have hF1 := blk_later hF.out hb1 hltF; have q0 : w1.cell? ⟨w.heap.size, 0, none⟩ = some (.int .i64 0) := blk_cell hF1 0; have q1 : w1.cell? ⟨w.heap.size, 1, none⟩ = some (.int .i64 0) := blk_cell hF1 1; have g0 := blk_frozen hF1 0; have g1 := blk_frozen hF1 1; have hlt1 := blk_lt hF1)
        obtain ⟨hF2, hB2⟩ := two_set (x := .int .i64 co) (y := .int .i64 fa) hF1
        have hb2 := hbw.trans ((hb1.mono hbw.size).trans (hB2 w.heap.size (Nat.le_refl _)))
        clear q0 q1 g0 g1 hF1 hB2
        generalize (w1.setCell ⟨w.heap.size, 0, none⟩ (.int .i64 co)).setCell ⟨w.heap.size, 1, none⟩ (.int .i64 fa) = w2 at hF2 hb2 ⊢
        have q0 : w2.cell? ⟨w.heap.size, 0, none⟩ = some (.int .i64 co) := blk_cell hF2 0
        have q1 : w2.cell? ⟨w.heap.size, 1, none⟩ = some (.int .i64 fa) := blk_cell hF2 1
        have g0 := blk_frozen hF2 0
        have g1 := blk_frozen hF2 1
        have hlt2 := blk_lt hF2
        go_region_with (go_at_call 15; refine (put_any _ [r] 1 _ rfl (by omega) _ (IS_one (by simp) (by simp))).mono ?_; rintro e w3 ⟨A2, m2, rfl, hO2, hb3⟩; have hF3 := blk_later (o := .cells #[.int .i64 co, .int .i64 fa] 26) (blk_later (B := w2.heap.size) hF2 (by repeat (first | exact Below.refl _ _ | refine Below.drew ?_ | refine Below.alloc ?_ (by simp) _)) hlt2) hb3 (by simp; omega); have r0 : w3.cell? ⟨w.heap.size, 0, none⟩ = some (.int .i64 co) := blk_cell hF3 0; have r1 : w3.cell? ⟨w.heap.size, 1, none⟩ = some (.int .i64 fa) := blk_cell hF3 1; have f0 := blk_frozen hF3 0; have f1 := blk_frozen hF3 1; have hlt3 := blk_lt hF3)
        all_goals (
          go_wp2
          refine bodyPost_ret (v := .tuple #[.slice A2 m2 m2, .int .i64 took, .agg #[.int .i64 co, .int .i64 fa]]) (by simp [results, Tryd.results20, go_sem, r0, r1]) rfl ?_
          rw [hres.out]
          have hsz := hb2.size
          refine ⟨A2, m2, rfl, ?_, ?_⟩
          · have hO3 := OwnS.mono (base := w.heap.size + 1) hO2 (by first | omega | (simp; omega) | simp)
            refine OwnS.mono (base' := w.heap.size + 1) ?_ (by omega)
            repeat (first | exact hO3 | refine OwnS.drew ?_ | refine OwnS.set_ ?_ (by simp) _)
          · repeat (first | refine Below.drew ?_ | refine Below.setCell ?_ (by simp) _)
            refine Below.trans ?_ (hb3.mono (by first | omega | (simp; omega)))
            repeat (first | exact hb2 | refine Below.drew ?_ | refine Below.alloc ?_ (by first | omega | (simp; omega) | simp) _))

end Go.Proofs.YtpchipmpgoflfaaDoor
