/- The walk over the law's Same, at equal lists; no statement of the seat is proved here. -/
import Derived.Test.YtpafadfaphaoeaaDoorPcT
import Derived.Test.YtpafadfaphaoeaaDoorLat
namespace Go.Proofs.YtpafadfaphaoeaaDoor
open Go.RowKit

set_option maxRecDepth 100000 in
set_option maxHeartbeats 8000000 in
/-- Same at pieces that are the same: `oc` = what the reference's pieces have in memory. -/
theorem same_is (LA LB : Option Addr) (n ca cb : Nat) (l : List Pc) (hn : n = l.length) (hn1 : n ≤ 3000) (w : World) (hM : PcM w LA l)
    (hO : ∀ j (h : j < l.length), ∃ g off, LB = some ⟨g, off, none⟩ ∧ g < w.heap.size ∧ ∀ r, r < 5 → w.cell? ⟨g, off + j * 5 + r, none⟩ = (#[.int .i64 (l[j].kind.toNat : Int), .int .u8 (l[j].side.toNat : Int), .int .i64 l[j].lo, .int .i64 l[j].hi, .string l[j].txt] : Array Value)[r]?) :
    Calls Tryd.prog 10 #[.slice LA n ca, .slice LB n cb] w fun e w' => e = .returned (.bool true) ∧ Below w.heap.size w w' := by
  have HM := Lib.hid hM; have HN := Lib.hid hn; have HO := Lib.hid hO
  clear hM hn hO
  go_enter Tryd.func10, Tryd.ntmps10
  go_wp2
  go_loopg [5] n (fun q s5 wr => ∃ (k : Nat), s5 = .int .i64 (k : Int) ∧ k ≤ n ∧ Hid (q = n - k) ∧ Hid (Below w.heap.size w wr))
  case atStart => exact ⟨0, rfl, by omega, by show _ = _; omega, Lib.hid (Below.refl _ _)⟩
  case round =>
    obtain ⟨k, rfl, hk, hq, HB⟩ := hrel
    by_cases hlt : k < n
    · have hkl : k < l.length := by have := HN.out; omega
      obtain ⟨g, off, rfl, hg, hc⟩ := (HM.out.keep HB.out (Nat.le_refl _)) k hkl
      obtain ⟨g', off', rfl, hg', hd⟩ := HO.out k hkl
      have hd' : ∀ r, r < 5 → wr.cell? ⟨g', off' + k * 5 + r, none⟩ = (#[.int .i64 (l[k].kind.toNat : Int), .int .u8 (l[k].side.toNat : Int), .int .i64 l[k].lo, .int .i64 l[k].hi, .string l[k].txt] : Array Value)[r]? := fun r hr => (HB.out.cell (by show g' < _; omega)).trans (hd r hr)
      obtain ⟨⟨kd, sd, lo, hi, tx⟩, hp⟩ : ∃ p, l[k] = p := ⟨_, rfl⟩
      rw [hp] at hc hd'
      have p0 := later_cell (show wr.cell? ⟨g, off + k * 5, none⟩ = some (.int .u8 (kd.toNat : Int)) from hc 0 (by omega))
      have p1 := later_cell (show wr.cell? ⟨g, off + k * 5 + 1, none⟩ = some (.int .u8 (sd.toNat : Int)) from hc 1 (by omega))
      have p2 := later_cell (show wr.cell? ⟨g, off + k * 5 + 2, none⟩ = some (.int .i64 lo) from hc 2 (by omega))
      have p3 := later_cell (show wr.cell? ⟨g, off + k * 5 + 3, none⟩ = some (.int .i64 hi) from hc 3 (by omega))
      have p4 := later_cell (show wr.cell? ⟨g, off + k * 5 + 4, none⟩ = some (.string tx) from hc 4 (by omega))
      have r0 := later_cell (show wr.cell? ⟨g', off' + k * 5, none⟩ = some (.int .i64 (kd.toNat : Int)) from hd' 0 (by omega))
      have r1 := later_cell (show wr.cell? ⟨g', off' + k * 5 + 1, none⟩ = some (.int .u8 (sd.toNat : Int)) from hd' 1 (by omega))
      have r2 := later_cell (show wr.cell? ⟨g', off' + k * 5 + 2, none⟩ = some (.int .i64 lo) from hd' 2 (by omega))
      have r3 := later_cell (show wr.cell? ⟨g', off' + k * 5 + 3, none⟩ = some (.int .i64 hi) from hd' 3 (by omega))
      have r4 := later_cell (show wr.cell? ⟨g', off' + k * 5 + 4, none⟩ = some (.string tx) from hd' 4 (by omega))
      have hki : (k : Int) < (n : Int) := by omega
      have hki0 : (0 : Int) ≤ (k : Int) := by omega
      have hkw : wrap64 (kd.toNat : Int) = (kd.toNat : Int) := by unfold wrap64; have := kd.toNat_lt; omega
      have hkw' : IntKind.i64.wrap (kd.toNat : Int) = (kd.toNat : Int) := by have := kd.toNat_lt; exact IntWalk.i64_in _ (by omega)
      clear hc hd hd' hp
      go_wp2
      refine wp_region_later wr (by kernel_rfl) (by kernel_rfl) (Below.refl _ _) ?_
      repeat (go_big_quiet_step ((fail)))
      refine wpQuiet_nil ?_
      intro w3 hw3
      obtain ⟨⟨w4, hb3⟩, e4⟩ := hw3
      have e5 : w3 = w4 := e4
      subst e5
      clear e4
      go_wp2
      go_roundg (n - (k + 1))
      case measure => have := hq.out; omega
      case rel => exact ⟨k + 1, by go_num, by omega, rfl, Below.on HB.out hb3⟩
    · go_wp2
      go_ret
      exact ⟨rfl, HB.out⟩

end Go.Proofs.YtpafadfaphaoeaaDoor
