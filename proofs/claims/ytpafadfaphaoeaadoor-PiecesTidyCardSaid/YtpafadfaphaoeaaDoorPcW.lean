/- The walk over pieces.Count; no statement of the seat is proved here. -/
import Derived.Test.YtpafadfaphaoeaaDoorPcT
namespace Go.Proofs.YtpafadfaphaoeaaDoor
open Go.RowKit

def cnV (l : List Pc) : Array Value := #[.int .i64 ((cnL 0 l : Nat) : Int), .int .i64 ((cnL 1 l : Nat) : Int), .int .i64 ((cnL 2 l : Nat) : Int)]
theorem cnP_le {s : UInt8} {p : Pc} {d : Docs} (hp : mayP p d = true) (hd : ∀ s, d.len s ≤ 3000) : cnP s p ≤ 3000 := by
  unfold cnP
  split
  · rename_i h
    rw [may_span h.1, span_iff] at hp
    have := hd p.side
    omega
  · omega
theorem cnL_le {s : UInt8} {d : Docs} (hd : ∀ s, d.len s ≤ 3000) : ∀ l : List Pc, mayL l d = true → cnL s l ≤ 3000 * l.length
  | [], _ => by simp [cnL]
  | p :: l, h => by
    rw [mayL_cons, Bool.and_eq_true] at h
    have h1 := cnP_le (s := s) h.1 hd
    have h2 := cnL_le (s := s) hd l h.2
    rw [cnL_cons, List.length_cons]; omega
theorem heap_set {w : World} {b i : Nat} {cs : Array Value} {T : TypeId} {fr : Nat × Nat} (hb : w.heap[b]? = some (.cells cs T fr)) (v : Value) : (w.setCell ⟨b, i, none⟩ v).heap[b]? = some (.cells (cs.setIfInBounds i v) T fr) := by
  simp [World.setCell, Array.getElem?_modify, hb]
theorem res_count {W : World} {n : Nat} {v0 v1 v2 : Value} (h : W.heap[n]? = some (.cells #[v0, v1, v2] 42 (0, 0))) (z : Int) (a : Array Value) (ha : a[2]?.getD undef = .pointer (some ⟨n, 0, none⟩)) (hz : a[3]?.getD undef = .int .i64 z) :
    (results Tryd.f12 a).run Tryd.prog W = .ok (.tuple #[.agg #[v0, v1, v2], .int .i64 z]) W := by
  have x0 := blk_cell h 0; have x1 := blk_cell h 1; have x2 := blk_cell h 2
  simp [results, Tryd.results12, go_sem, ha, hz, x0, x1, x2]

set_option maxRecDepth 100000 in
set_option maxHeartbeats 8000000 in
theorem count_is (LA : Option Addr) (n cap : Nat) (l : List Pc) (hn : n = l.length) (hn1 : n ≤ 3000) (d : Docs) (hd : ∀ s, d.len s ≤ 3000) (hmay : mayL l d = true) (w : World) (hM : PcM w LA l) :
    Calls Tryd.prog 12 #[.slice LA n cap] w fun e w' => (∃ o : Int, e = .returned (.tuple #[.agg (cnV l), .int .i64 o])) ∧ Below w.heap.size w w' := by
  have HM := Lib.hid hM; have HN := Lib.hid hn; have HD := Lib.hid hd; have HY := Lib.hid hmay
  have hI0 : (w.alloc (.cells #[.int .i64 0, .int .i64 0, .int .i64 0] 42)).heap[w.heap.size]? = some (.cells (cnV (l.take 0)) 42 (0, 0)) := heap_new1 w _
  have HI0 := Lib.hid hI0
  have HB0 := Lib.hid (below_new1 w (.cells #[.int .i64 0, .int .i64 0, .int .i64 0] 42))
  clear hM hn hd hmay hI0
  go_enter Tryd.func12, Tryd.ntmps12
  go_wp2
  go_loopg [3, 8] n (fun q s3 s8 wr => ∃ (k o : Nat), s8 = .int .i64 (k : Int) ∧ s3 = .int .i64 (o : Int) ∧ k ≤ n ∧ o ≤ k ∧ Hid (q = n - k) ∧ Hid (wr.heap[w.heap.size]? = some (.cells (cnV (l.take k)) 42 (0, 0))) ∧ Hid (Below w.heap.size w wr))
  case atStart => exact ⟨0, 0, rfl, rfl, by omega, by omega, by show _ = _; omega, HI0, HB0⟩
  case round =>
    obtain ⟨k, o, rfl, rfl, hk, ho, hq, HI, HB⟩ := hrel
    by_cases hlt : k < n
    · have hkl : k < l.length := by have := HN.out; omega
      obtain ⟨g, off, rfl, hg, hc⟩ := (HM.out.keep HB.out (Nat.le_refl _)) k hkl
      have hmp : mayP l[k] d = true := by have := HY.out; unfold mayL at this; rw [List.all_eq_true] at this; exact this _ (List.getElem_mem hkl)
      have h0 := cnL_take 0 l k hkl; have h1 := cnL_take 1 l k hkl; have h2 := cnL_take 2 l k hkl
      have m0 : mayL (l.take k) d = true := by have := HY.out; unfold mayL at *; rw [List.all_eq_true] at *; exact fun x hx => this x (List.mem_of_mem_take hx)
      have b0 := cnL_le (s := 0) HD.out _ m0; have b1 := cnL_le (s := 1) HD.out _ m0; have b2 := cnL_le (s := 2) HD.out _ m0
      have htl : (l.take k).length ≤ 3000 := by rw [List.length_take]; omega
      have hI := HI.out
      obtain ⟨⟨kd, sd, lo, hi, tx⟩, hp⟩ : ∃ p, l[k] = p := ⟨_, rfl⟩
      rw [hp] at hc h0 h1 h2 hmp
      have hcv : cnV (l.take (k + 1)) = #[.int .i64 ((cnL 0 (l.take (k + 1)) : Nat) : Int), .int .i64 ((cnL 1 (l.take (k + 1)) : Nat) : Int), .int .i64 ((cnL 2 (l.take (k + 1)) : Nat) : Int)] := rfl
      rw [h0, h1, h2] at hcv
      unfold cnV at hI
      obtain ⟨z0, hz0⟩ : ∃ z, cnL 0 (l.take k) = z := ⟨_, rfl⟩
      obtain ⟨z1, hz1⟩ : ∃ z, cnL 1 (l.take k) = z := ⟨_, rfl⟩
      obtain ⟨z2, hz2⟩ : ∃ z, cnL 2 (l.take k) = z := ⟨_, rfl⟩
      rw [hz0] at hI b0 hcv; rw [hz1] at hI b1 hcv; rw [hz2] at hI b2 hcv
      have c0 : z0 ≤ 9000000 := by omega
      have c1 : z1 ≤ 9000000 := by omega
      have c2 : z2 ≤ 9000000 := by omega
      have p0 : wr.cell? ⟨g, off + k * 5, none⟩ = some (.int .u8 (kd.toNat : Int)) := hc 0 (by omega)
      have p1 : wr.cell? ⟨g, off + k * 5 + 1, none⟩ = some (.int .u8 (sd.toNat : Int)) := hc 1 (by omega)
      have p2 : wr.cell? ⟨g, off + k * 5 + 2, none⟩ = some (.int .i64 lo) := hc 2 (by omega)
      have p3 : wr.cell? ⟨g, off + k * 5 + 3, none⟩ = some (.int .i64 hi) := hc 3 (by omega)
      have p4 : wr.cell? ⟨g, off + k * 5 + 4, none⟩ = some (.string tx) := hc 4 (by omega)
      clear hc hp h0 h1 h2 b0 b1 b2 htl hz0 hz1 hz2 m0
      have HCV := Lib.hid hcv; have HIZ := Lib.hid hI
      clear hcv hI
      by_cases hk0 : kd = 0
      · subst hk0
        rw [may_span rfl, span_iff] at hmp
        obtain ⟨a1, a2, a3, a4, a5⟩ := hmp
        have hdl := HD.out sd
        have bk : ((((0 : UInt8).toNat : Nat) : Int) != 0) = false := rfl
        have hlo : lo ≤ 3000 := by simp only at a3 a4; omega
        have hhi : hi ≤ 3000 := by simp only at a4; omega
        by_cases hgt : lo < hi
        · have bs : decide ((sd.toNat : Int) < 3) = true := decide_eq_true (by simp only at a1; omega)
          have bg : decide (lo < hi) = true := decide_eq_true hgt
          have h3 : sd = 0 ∨ sd = 1 ∨ sd = 2 := by
            rcases (by simp only at a1; omega : sd.toNat = 0 ∨ sd.toNat = 1 ∨ sd.toNat = 2) with e | e | e
            · exact .inl (UInt8.toNat_inj.1 e)
            · exact .inr (.inl (UInt8.toNat_inj.1 e))
            · exact .inr (.inr (UInt8.toNat_inj.1 e))
          have hlo0 : 0 ≤ lo := a2
          obtain ⟨v, hv⟩ : ∃ v : Nat, hi.toNat - lo.toNat = v := ⟨_, rfl⟩
          have hvi : hi - lo = (v : Int) := by omega
          have e : ∀ s, cnP s ⟨0, sd, lo, hi, tx⟩ = if sd = s then v else 0 := fun s => by
            unfold cnP; simp only [true_and, hv]
          rw [e 0, e 1, e 2] at HCV
          have x0 : wr.cell? ⟨w.heap.size, 0, none⟩ = some (.int .i64 (z0 : Int)) := blk_cell HIZ.out 0
          have x1 : wr.cell? ⟨w.heap.size, 1, none⟩ = some (.int .i64 (z1 : Int)) := blk_cell HIZ.out 1
          have x2 : wr.cell? ⟨w.heap.size, 2, none⟩ = some (.int .i64 (z2 : Int)) := blk_cell HIZ.out 2
          have y0 : wr.frozen? ⟨w.heap.size, 0, none⟩ = false := blk_frozen HIZ.out 0
          have y1 : wr.frozen? ⟨w.heap.size, 1, none⟩ = false := blk_frozen HIZ.out 1
          have y2 : wr.frozen? ⟨w.heap.size, 2, none⟩ = false := blk_frozen HIZ.out 2
          have hwl := blk_lt HIZ.out
          have wv : IntKind.i64.wrap (hi - lo) = (v : Int) := by rw [hvi]; exact IntWalk.i64_in _ (by omega)
          have w0 : IntKind.i64.wrap ((z0 : Int) + (v : Int)) = (z0 : Int) + (v : Int) := IntWalk.i64_in _ (by omega)
          have w1 : IntKind.i64.wrap ((z1 : Int) + (v : Int)) = (z1 : Int) + (v : Int) := IntWalk.i64_in _ (by omega)
          have w2 : IntKind.i64.wrap ((z2 : Int) + (v : Int)) = (z2 : Int) + (v : Int) := IntWalk.i64_in _ (by omega)
          have hbk := Lib.hid (Below.on HB.out (below_new1 wr (.cells #[.int .u8 0, .int .u8 (sd.toNat : Int), .int .i64 lo, .int .i64 hi, .string tx] 36)))
          have hik := Lib.hid (blk_later HIZ.out (below_new1 wr (.cells #[.int .u8 0, .int .u8 (sd.toNat : Int), .int .i64 lo, .int .i64 hi, .string tx] 36)) hwl)
          clear e a1 a2 a3 a4 a5 hdl
          rcases h3 with rfl | rfl | rfl
          · have hcs : cnV (l.take (k + 1)) = #[.int .i64 ((z0 : Int) + (v : Int)), .int .i64 ((z1 : Nat) : Int), .int .i64 ((z2 : Nat) : Int)] := by rw [HCV.out]; simp
            have HCS := Lib.hid hcs
            clear hcs
            go_wp2
            go_region
            go_wp2
            go_roundg (n - (k + 1))
            case measure => have := hq.out; omega
            case rel => exact ⟨k + 1, o, by go_num, rfl, by omega, by omega, rfl, by show _ = _; rw [HCS.out]; exact blk_later (heap_set HIZ.out _) (below_new1 _ _).drew (blk_lt (heap_set HIZ.out _)), ((HB.out.setCell (Nat.le_refl _) _).alloc (HB.out.setCell (Nat.le_refl _) _).size _).drew⟩
          · have hcs : cnV (l.take (k + 1)) = #[.int .i64 ((z0 : Nat) : Int), .int .i64 ((z1 : Int) + (v : Int)), .int .i64 ((z2 : Nat) : Int)] := by rw [HCV.out]; simp
            have HCS := Lib.hid hcs
            clear hcs
            go_wp2
            go_region
            go_wp2
            go_roundg (n - (k + 1))
            case measure => have := hq.out; omega
            case rel => exact ⟨k + 1, o, by go_num, rfl, by omega, by omega, rfl, by show _ = _; rw [HCS.out]; exact blk_later (heap_set HIZ.out _) (below_new1 _ _).drew (blk_lt (heap_set HIZ.out _)), ((HB.out.setCell (Nat.le_refl _) _).alloc (HB.out.setCell (Nat.le_refl _) _).size _).drew⟩
          · have hcs : cnV (l.take (k + 1)) = #[.int .i64 ((z0 : Nat) : Int), .int .i64 ((z1 : Nat) : Int), .int .i64 ((z2 : Int) + (v : Int))] := by rw [HCV.out]; simp
            have HCS := Lib.hid hcs
            clear hcs
            go_wp2
            go_region
            go_wp2
            go_roundg (n - (k + 1))
            case measure => have := hq.out; omega
            case rel => exact ⟨k + 1, o, by go_num, rfl, by omega, by omega, rfl, by show _ = _; rw [HCS.out]; exact blk_later (heap_set HIZ.out _) (below_new1 _ _).drew (blk_lt (heap_set HIZ.out _)), ((HB.out.setCell (Nat.le_refl _) _).alloc (HB.out.setCell (Nat.le_refl _) _).size _).drew⟩
        · have hle : hi ≤ lo := by omega
          have e : ∀ s, cnP s ⟨0, sd, lo, hi, tx⟩ = 0 := fun s => cn_empty (by rw [empty_span rfl]; exact decide_eq_true hle)
          rw [e 0, e 1, e 2] at HCV
          have bs : decide ((sd.toNat : Int) < 3) = true := decide_eq_true (by simp only at a1; omega)
          have bg : decide (lo < hi) = false := decide_eq_false hgt
          clear e a1 a2 a3 a4 a5 hdl
          go_wp2
          go_roundg (n - (k + 1))
          case measure => have := hq.out; omega
          case rel => exact ⟨k + 1, o, by go_num, rfl, by omega, by omega, rfl, by show _ = _; rw [HCV.out]; exact blk_later HIZ.out (below_new1 _ _) (blk_lt HIZ.out), Below.on HB.out (below_new1 _ _)⟩
      · have e : ∀ s, cnP s ⟨kd, sd, lo, hi, tx⟩ = 0 := fun s => by unfold cnP; rw [if_neg (fun h => hk0 h.1)]
        rw [e 0, e 1, e 2] at HCV
        have bk : ((kd.toNat : Int) != 0) = true := by rw [bne, u8_eqi kd 0 0 rfl, decide_eq_false hk0]; rfl
        clear e hk0 hmp
        go_wp2
        go_roundg (n - (k + 1))
        case measure => have := hq.out; omega
        case rel => exact ⟨k + 1, o + 1, by go_num, by go_num, by omega, by omega, rfl, by show _ = _; rw [HCV.out]; exact blk_later HIZ.out (below_new1 _ _) (blk_lt HIZ.out), Below.on HB.out (below_new1 _ _)⟩
    · have hkn : k = l.length := by have := HN.out; omega
      have hI := HI.out
      rw [hkn, List.take_length] at hI
      unfold cnV at hI
      have x0 : wr.cell? ⟨w.heap.size, 0, none⟩ = some (.int .i64 ((cnL 0 l : Nat) : Int)) := blk_cell hI 0
      have x1 : wr.cell? ⟨w.heap.size, 1, none⟩ = some (.int .i64 ((cnL 1 l : Nat) : Int)) := blk_cell hI 1
      have x2 : wr.cell? ⟨w.heap.size, 2, none⟩ = some (.int .i64 ((cnL 2 l : Nat) : Int)) := blk_cell hI 2
      have y0 : wr.frozen? ⟨w.heap.size, 0, none⟩ = false := blk_frozen hI 0
      have y1 : wr.frozen? ⟨w.heap.size, 1, none⟩ = false := blk_frozen hI 1
      have y2 : wr.frozen? ⟨w.heap.size, 2, none⟩ = false := blk_frozen hI 2
      have HIE := Lib.hid hI
      clear hkn hI
      go_wp2
      refine bodyPost_ret (res_count (heap_set (heap_set (heap_set HIE.out _) _) _) _ _ rfl rfl) rfl ⟨⟨_, rfl⟩, ?_⟩
      exact ((HB.out.setCell (Nat.le_refl _) _).setCell (Nat.le_refl _) _).setCell (Nat.le_refl _) _

end Go.Proofs.YtpafadfaphaoeaaDoor
