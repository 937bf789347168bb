/- Plain laws of tidy pieces: each says something, no two glues side by side; no statement of the seat is proved here. -/
import Derived.Test.YtpafadfaphaoeaaDoorPcT
namespace Go.Proofs.YtpafadfaphaoeaaDoor
open Go.RowKit

theorem good_mem : ∀ (r : List Pc), Good r → ∀ p ∈ r, emptyP p = false
  | [], _, p, hp => by cases hp
  | q :: r, h, p, hp => by
    rcases List.mem_cons.1 hp with rfl | hp
    · exact h.head
    · exact good_mem r h.tail p hp
theorem good_two : ∀ (r : List Pc), Good r → ∀ j (h : j + 1 < r.length), withP r[j + 1] r[j] = none
  | [], _, j, h => by simp at h
  | [_], _, j, h => by simp at h
  | _ :: _ :: _, h, 0, _ => h.2.1
  | _ :: q :: r, h, j + 1, hj => good_two (q :: r) h.2.2 j (by simpa using hj)
theorem tidy_mem {l : List Pc} {p : Pc} (hp : p ∈ tidyL l) : emptyP p = false :=
  good_mem _ (good_tidy l) p (by simpa [tidyL] using hp)
theorem tidy_two (l : List Pc) (i : Nat) (h : i + 1 < (tidyL l).length) : withP (tidyL l)[i] (tidyL l)[i + 1] = none := by
  have hl : (tidyL l).length = (tidyR l).length := by simp [tidyL]
  have := good_two _ (good_tidy l) ((tidyR l).length - 1 - (i + 1)) (by omega)
  simp only [tidyL, List.getElem_reverse]
  have e : (tidyR l).length - 1 - (i + 1) + 1 = (tidyR l).length - 1 - i := by omega
  rw [← this]
  congr 2
  all_goals omega
theorem tidy_glue (l : List Pc) (i : Nat) (h : i + 1 < (tidyL l).length) : ¬ ((tidyL l)[i].kind = 1 ∧ (tidyL l)[i + 1].kind = 1) := by
  intro hk
  have := tidy_two l i h
  unfold withP at this
  rw [if_pos hk] at this
  cases this
section
variable {f : Int} {b : UInt8 → List UInt8} {d : Docs} (hb : ∀ s : UInt8, s.toNat < 3 → (b s).length = d.len s)
include hb in
theorem say_cn {p : Pc} (h : p.kind = 0) (hp : mayP p d = true) : (sayP f b p).length = cnP p.side p := by
  rw [may_span h, span_iff] at hp
  obtain ⟨a1, a2, a3, a4, _⟩ := hp
  have := hb p.side a1
  rw [say_span h]
  unfold cnP
  rw [if_pos ⟨h, rfl⟩]
  simp; omega
include hb in
theorem say_pos {p : Pc} (he : emptyP p = false) (hp : mayP p d = true) : 0 < (sayP f b p).length := by
  by_cases h0 : p.kind = 0
  · rw [say_cn hb h0 hp]
    rw [empty_span h0, decide_eq_false_iff_not] at he
    rw [may_span h0, span_iff] at hp
    unfold cnP
    rw [if_pos ⟨h0, rfl⟩]
    omega
  · by_cases h1 : p.kind = 1
    · rw [empty_glue h1, decide_eq_false_iff_not] at he
      rw [say_text h1]
      have : p.txt.data.toList.length = p.txt.size := by simp
      omega
    · by_cases h2 : p.kind = 2
      · unfold sayP
        rw [if_neg h0, if_neg (by rw [h2]; decide)]
        split
        · rw [keyL_one]
          unfold keyW
          split
          · rename_i hbw
            rcases Nat.eq_zero_or_pos p.txt.data.toList.length with hz | hz
            · exfalso
              have hn := List.eq_nil_of_length_eq_zero hz
              unfold bareW at hbw
              rw [ByteArray.toList_eq, hn] at hbw
              simp at hbw
            · exact hz
          · show 0 < (T.writeQ _).toArray.toList.length
            simp [T.writeQ]
        · simp [Q.writeQ]
      · have hm : markP p = true := by
          unfold mayP at hp
          rw [if_neg h0, if_neg h1, if_neg h2] at hp
          split at hp
          · exact hp
          · cases hp
        unfold sayP
        rw [if_neg h0, if_pos h2]
        unfold markP at hm
        simp only [Bool.and_eq_true] at hm
        rcases Nat.eq_zero_or_pos p.txt.data.toList.length with hz | hz
        · exfalso
          have hn := List.eq_nil_of_length_eq_zero hz
          have := hm.1.1.1.2
          rw [hn] at this
          revert this
          decide
        · exact hz
end
theorem may_side {p : Pc} {d : Docs} (hp : mayP p d = true) : p.side.toNat < 3 := by
  unfold mayP at hp
  have hbare : bareP p = true → p.side.toNat < 3 := by
    intro h
    simp only [bareP, Bool.and_eq_true, decide_eq_true_eq] at h
    rw [h.1.1]; decide
  split at hp
  · exact (span_iff.1 hp).1
  · split at hp
    · exact hbare (glue_iff.1 hp).1
    · split at hp
      · exact hbare hp
      · split at hp
        · unfold markP at hp
          simp only [Bool.and_eq_true] at hp
          exact hbare hp.1.1.1.1
        · cases hp
theorem sumP_app : ∀ l m : List Pc, sumP (l ++ m) = sumP l + sumP m
  | [], m => by simp [sumP]
  | p :: l, m => by have := sumP_app l m; simp only [List.cons_append, sumP]; omega
theorem sumP_rev : ∀ l : List Pc, sumP l.reverse = sumP l
  | [] => rfl
  | p :: l => by rw [List.reverse_cons, sumP_app, sumP_rev l]; simp [sumP]; omega

end Go.Proofs.YtpafadfaphaoeaaDoor
