/- The laws' own functions great and lives over pieces; no statement of the seat is proved here. -/
import Derived.Test.YtpafadfaphaoeaaDoorPcD
namespace Go.Proofs.YtpafadfaphaoeaaDoor
open Go.RowKit

def sumP : List Pc → Nat
  | [] => 0
  | p :: l => 2 + p.txt.size + sumP l
theorem sumP_take : ∀ (l : List Pc) (k : Nat) (h : k < l.length), sumP (l.take (k + 1)) = sumP (l.take k) + 2 + l[k].txt.size
  | p :: l, 0, _ => by simp [sumP]
  | p :: l, k + 1, h => by
    have := sumP_take l k (by simpa using h)
    simp only [List.take_succ_cons, sumP, List.getElem_cons_succ]; omega
theorem sumP_le : ∀ (l : List Pc) (k : Nat), sumP (l.take k) ≤ sumP l
  | [], k => by simp [sumP]
  | p :: l, 0 => by simp [sumP]
  | p :: l, k + 1 => by
    have := sumP_le l k
    simp only [List.take_succ_cons, sumP]; omega
theorem sumP_len : ∀ l : List Pc, 2 * l.length ≤ sumP l
  | [] => by simp
  | p :: l => by have := sumP_len l; simp only [List.length_cons, sumP]; omega
theorem sumP_mem : ∀ (l : List Pc), ∀ p ∈ l, p.txt.size ≤ sumP l
  | q :: l, p, h => by
    simp only [sumP]
    rcases List.mem_cons.1 h with rfl | h
    · omega
    · have := sumP_mem l p h; omega
/-- How much they are. -/
def bulk (l : List Pc) (d : Docs) : Nat := d.n0 + d.n1 + d.n2 + sumP l

theorem PcOk.of {l : List Pc} {d : Docs} (h : bulk l d < 3000) : PcOk l d := by
  unfold bulk at h
  refine ⟨?_, fun p hp => ?_, fun s => ?_⟩
  · have := sumP_len l; omega
  · have := sumP_mem l p hp; omega
  · unfold Docs.len; split
    · omega
    · split <;> omega

set_option maxRecDepth 100000 in
set_option maxHeartbeats 4000000 in
theorem great_is (LA : Option Addr) (n cap : Nat) (l : List Pc) (hn : n = l.length) (hnn : n ≤ 140737488355328) (d : Docs) (h0 : d.n0 ≤ 140737488355328) (h1 : d.n1 ≤ 140737488355328) (h2 : d.n2 ≤ 140737488355328) (ht : ∀ p ∈ l, p.txt.size ≤ 140737488355328) (w : World) (hM : PcM w LA l) :
    Calls Tryd.prog 5 #[.slice LA n cap, .agg d.cells] w fun e w' => e = .returned (.bool (decide (3000 ≤ bulk l d))) ∧ Below w.heap.size w w' := by
  have HM := Lib.hid hM; have HN := Lib.hid hn; have HT := Lib.hid ht
  clear hM hn ht
  have HB := Lib.hid (show bulk l d = d.n0 + d.n1 + d.n2 + sumP l from rfl)
  have hnb := below_new1 w (.cells d.cells 24)
  have HNB := Lib.hid hnb; clear hnb
  obtain ⟨R, hR⟩ : ∃ R, R = decide (3000 ≤ bulk l d) := ⟨_, rfl⟩
  rw [← hR]
  have HR := Lib.hid hR; clear hR
  unfold Docs.cells at HNB ⊢
  obtain ⟨m0, hm0⟩ : ∃ m0, m0 = d.n0 + d.n1 + d.n2 := ⟨_, rfl⟩
  have H0 := Lib.hid hm0
  have hm1 : m0 ≤ 422212465065984 := by omega
  have hm2 : (d.n0 : Int) + (d.n1 : Int) + (d.n2 : Int) = (m0 : Int) := by omega
  clear hm0
  go_enter Tryd.func5, Tryd.ntmps5
  go_wp2
  go_loopg [5, 6] n (fun q s5 s6 wr => ∃ (k m : Nat), s6 = .int .i64 (k : Int) ∧ s5 = .int .i64 (m : Int) ∧ k ≤ n ∧ m ≤ 422212465065984 ∧ Hid (q = n - k) ∧ Hid (m = m0 + sumP (l.take k)) ∧ Hid (Below w.heap.size w wr))
  case atStart => exact ⟨0, m0, rfl, by simp, by omega, by omega, by show _ = _; omega, by show _ = _; simp [sumP], HNB⟩
  case round =>
    obtain ⟨k, m, rfl, rfl, hk, hm, hq, HS, HW⟩ := hrel
    by_cases hlt : k < n
    · have hkl : k < l.length := by have := HN.out; omega
      obtain ⟨g, off, rfl, hg, hc⟩ := (HM.out.keep HW.out (Nat.le_refl _)) k hkl
      have p4 : wr.cell? ⟨g, off + k * 5 + 4, none⟩ = some (.string l[k].txt) := hc 4 (by omega)
      have hsz := HT.out l[k] (List.getElem_mem hkl)
      have hst := sumP_take l k hkl
      obtain ⟨tx, htx⟩ : ∃ tx, l[k].txt = tx := ⟨_, rfl⟩
      rw [htx] at p4 hsz hst
      have HST := Lib.hid hst
      clear hc htx hst hkl
      by_cases hlm : m < 3000
      · go_wp2
        go_roundg (n - (k + 1))
        case measure => have := hq.out; omega
        case rel => exact ⟨k + 1, m + 2 + tx.size, by go_num, by go_num, by omega, by omega, rfl, by show _ = _; have := HST.out; have := HS.out; omega, HW⟩
      · go_wp2
        go_ret
        have hle := sumP_le l k
        exact ⟨ret_boo (by have a := HR.out; have b := HB.out; have c := HS.out; have e := H0.out; rw [a]; exact (decide_eq_true (by omega)).symm), HW.out⟩
    · have hkn : k = l.length := by have := HN.out; omega
      have hs := HS.out
      rw [hkn, List.take_length] at hs
      have hr : R = decide ((3000 : Int) ≤ (m : Int)) := by
        have a := HR.out; have b := HB.out; have e := H0.out; rw [a, decide_eq_decide]; omega
      have HRR := Lib.hid hr
      clear hkn hs hr
      go_wp2
      go_ret
      exact ⟨ret_boo (by rw [HRR.out]), HW.out⟩

end Go.Proofs.YtpafadfaphaoeaaDoor
