/- The chapter's example over pieces; no statement of the seat is proved here. -/
import Derived.Test.YtpafadfaphaoeaaDoorPcE
import Derived.Lib.SmallJoins
namespace Go.Proofs.YtpafadfaphaoeaaDoor
open Go.RowKit

def livesL : List Pc := [⟨0, 1, 0, 2, ⟨#[]⟩⟩, ⟨1, 0, 0, 0, ⟨#[44]⟩⟩, ⟨2, 0, 0, 0, ⟨#[120]⟩⟩]
def livesD (g : Nat) : Docs := ⟨none, 0, 0, some ⟨g, 0, none⟩, 2, 2, none, 0, 0⟩
def livesB (s : UInt8) : List UInt8 := if s = 1 then [97, 98] else []
theorem lives_may (g : Nat) : mayL livesL (livesD g) = true := by
  simp only [mayL, livesL, List.all_cons, List.all_nil, mayP, spanP, glueP, bareP, ByteArray.toList_eq]
  rfl
theorem lives_say : sayL 0 livesB livesL = [97, 98, 44, 34, 120, 34] := by
  simp only [sayL, livesL, List.flatMap_cons, List.flatMap_nil, sayP, livesB]
  decide
theorem lives_ok (g : Nat) : PcOk livesL (livesD g) := PcOk.of (by simp [bulk, livesD, livesL, sumP, ByteArray.size])
theorem join_lives (w : World) (hT : T.Glob w) (hQ : Q.Glob w) (g g' : Nat) (fz fz' : Nat × Nat) (T1 T2 : TypeId) (h1 : w.heap[g]? = some (.cells (livesL.flatMap fun p => p.cells.toList).toArray T1 fz)) (h2 : w.heap[g']? = some (.cells #[.int .u8 97, .int .u8 98] T2 fz')) :
    Calls Tryd.prog 7 #[.int .u8 0, .slice (some ⟨g, 0, none⟩) 3 3, .agg #[.slice none 0 0, .slice (some ⟨g', 0, none⟩) 2 2, .slice none 0 0]] w fun e w' =>
      ∃ A, e = .returned (.tuple #[.slice A 6 6, .bool true]) ∧ BS w' w'.heap.size A [97, 98, 44, 34, 120, 34] ∧ Below w.heap.size w w' := by
  have hM : PcM w (some ⟨g, 0, none⟩) livesL := by
    intro j hj
    refine ⟨g, 0, rfl, blk_lt h1, fun r hr => ?_⟩
    have hj' : j < 3 := hj
    rw [blk_cell h1]
    rcases (by omega : j = 0 ∨ j = 1 ∨ j = 2) with rfl | rfl | rfl <;> rcases (by omega : r = 0 ∨ r = 1 ∨ r = 2 ∨ r = 3 ∨ r = 4) with rfl | rfl | rfl | rfl | rfl <;> rfl
  have hD : DocsIs w (livesD g') livesB := by
    refine ⟨fun s hs => ?_⟩
    have h3 : s = 0 ∨ s = 1 ∨ s = 2 := by
      rcases (by omega : s.toNat = 0 ∨ s.toNat = 1 ∨ s.toNat = 2) with e | e | e
      · exact .inl (UInt8.toNat_inj.1 e)
      · exact .inr (.inl (UInt8.toNat_inj.1 e))
      · exact .inr (.inr (UInt8.toNat_inj.1 e))
    rcases h3 with rfl | rfl | rfl
    · exact ⟨none, 0, 0, rfl, rfl, rfl, Nat.le_refl _, BS.nil _ _ _⟩
    · refine ⟨_, 2, 2, rfl, rfl, rfl, Nat.le_refl _, ?_⟩
      intro k hk
      have hk' : k < 2 := hk
      refine ⟨_, rfl, blk_lt h2, ?_⟩
      rw [add_plain, blk_cell h2]
      rcases (by omega : k = 0 ∨ k = 1) with rfl | rfl <;> rfl
    · exact ⟨none, 0, 0, rfl, rfl, rfl, Nat.le_refl _, BS.nil _ _ _⟩
  refine (join_at 0 (by omega) (some ⟨g, 0, none⟩) 3 3 livesL rfl (livesD g') livesB (lives_ok g') (by intro s; unfold livesB; split <;> simp) w hM hD hT hQ).mono ?_
  rintro e w' ⟨h, hb⟩
  unfold JoinRes at h
  rw [lives_may, if_pos rfl, lives_say] at h
  obtain ⟨A, n, rfl, rfl, hB⟩ := h
  exact ⟨A, rfl, hB, hb⟩

set_option maxRecDepth 100000 in
set_option maxHeartbeats 4000000 in
theorem lives_any (w : World) (hT : T.Glob w) (hQ : Q.Glob w) : Calls Tryd.prog 6 #[] w fun e w' => e = .returned (.bool true) ∧ Below w.heap.size w w' := by
  have HT := Lib.hid hT; have HQ := Lib.hid hQ; clear hT hQ
  have hcv := fun W A (h : BS W W.heap.size A [97, 98, 44, 34, 120, 34]) => conv_bs (P := Tryd.prog) W 23 9 5 Tryd.underlying23 Tryd.underlying5 Tryd.underlying9 h 6
  have CV := Lib.hid hcv; clear hcv
  go_enter Tryd.func6, Tryd.ntmps6
  have kc := fun (w : World) (C : Array Value) (n c g : Nat) (hg : g = w.heap.size) => Joins.run_convert_bytes_const_at (P := Tryd.prog) w 23 5 C n c g hg Tryd.underlying23 Tryd.underlying5
  go_wp2_with fail
  refine (join_lives _ (HT.out.keep (below_new2 w _ _) (Nat.le_refl _)) (HQ.out.keep (below_new2 w _ _) (Nat.le_refl _)) _ _ _ _ _ _ (heap_new2 w _ _).1 (heap_new2 w _ _).2).mono ?_
  rintro e w1 ⟨A, rfl, hB, hb⟩
  have HB := Lib.hid (Below.on (below_new2 w _ _) hb)
  have c1 : (convert 23 9 (.slice A 6 6)).run Tryd.prog w1 = .ok (.string ⟨#[97, 98, 44, 34, 120, 34]⟩) w1 := CV.out _ _ hB
  clear hB hb kc
  go_wp2
  go_ret
  exact ⟨rfl, HB.out⟩

end Go.Proofs.YtpafadfaphaoeaaDoor
