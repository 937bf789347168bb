/- The walk over the reference's Text; no statement of the seat is proved here. -/
import Derived.Test.YtjnedbkbhoiopaaDoorPtRD
import Derived.Test.YtjnedbkbhoiopaaDoorLat
namespace Go.Proofs.YtjnedbkbhoiopaaDoor
open Go.RowKit

def spR (l : List UInt8) : ByteArray := baR (spellL l)
theorem spR_list (l : List UInt8) : (spR l).data.toList = spellL l := rfl
theorem spR_size (l : List UInt8) : (spR l).size ≤ 3 * l.length := by
  have := spell_lenU l
  show (spellL l).toArray.size ≤ _
  rw [List.size_toArray]; exact this
theorem spR_is (l : List UInt8) (h : l.length ≤ 2000) (w : World) : Calls Tryd.prog 16 #[.string (baR l)] w fun e w' => e = .returned (.string (spR l)) ∧ Below w.heap.size w w' := by
  have := rspell_is (baR l) (by show l.toArray.size ≤ _; rw [List.size_toArray]; omega) w
  exact this
theorem text_snoc (ps : List Pat) (k : Nat) (h : k < ps.length) : (ps.take (k + 1)).flatMap Pat.text = (ps.take k).flatMap Pat.text ++ ps[k].text := by
  rw [List.take_succ_eq_append_getElem h, List.flatMap_append, List.flatMap_cons, List.flatMap_nil, List.append_nil]

set_option maxRecDepth 100000 in
set_option maxHeartbeats 8000000 in
theorem rtext_is (A : Option Addr) (m c : Nat) (ps : List Pat) (hm : m = ps.length) (hps : ∀ p ∈ ps, (txtR p).length ≤ 2000 ∧ (idsR p).length ≤ 2000) (hl : ps.length ≤ 512) (w : World) (hM : RM w A ps) :
    Calls Tryd.prog 18 #[.slice A m c] w fun e w' => e = .returned (.string ⟨(textL ps).toArray⟩) ∧ Below w.heap.size w w' := by
  have HM := Lib.hid hM; have HN := Lib.hid hm
  have hm5 : m ≤ 512 := by omega
  have HPS := Lib.hid hps
  clear hM hps hl
  by_cases h0 : m = 0
  · have hnil : ps = [] := List.eq_nil_of_length_eq_zero (by omega)
    subst hnil
    subst h0
    clear hm
    go_enter Tryd.func18, Tryd.ntmps18
    go_wp2
    go_ret
    exact ⟨rfl, Below.refl _ _⟩
  · have hm0 : ((m : Int) == 0) = false := by rw [beq_eq_false_iff_ne]; omega
    have hne : Hid (textL ps = ps.flatMap Pat.text) := by
      show _ = _
      unfold textL
      rw [if_neg (fun e => h0 (by rw [hm, e]; rfl))]
    clear hm h0
    go_enter Tryd.func18, Tryd.ntmps18
    go_wp2
    go_loopg [3, 4] m (fun q s3 s4 wr => ∃ (k : Nat) (S : ByteArray), s4 = .int .i64 (k : Int) ∧ s3 = .string S ∧ k ≤ m ∧ S.size ≤ 20000 * k ∧ Hid (q = m - k) ∧ Hid (S.data.toList = (ps.take k).flatMap Pat.text) ∧ Hid (Below w.heap.size w wr))
    case atStart => exact ⟨0, ⟨#[]⟩, rfl, rfl, by omega, Nat.zero_le _, by show _ = _; omega, rfl, Below.refl _ _⟩
    case round =>
      obtain ⟨k, S, rfl, rfl, hk, hS, hq, HS, HB⟩ := hrel
      by_cases hlt : k < m
      · have hkl : k < ps.length := by have := HN.out; omega
        obtain ⟨g, rfl, hg, hc⟩ := (HM.out.keep HB.out) k hkl
        obtain ⟨p, hp⟩ : ∃ p, ps[k] = p := ⟨_, rfl⟩
        have hsz := HPS.out _ (List.getElem_mem hkl)
        have hsn := text_snoc ps k hkl
        rw [hp] at hc hsz hsn
        have k0 : wr.cell? ⟨g, k * 3, none⟩ = some (.int .i64 (kindR p)) := hc 0 (by omega)
        have k1 : wr.cell? ⟨g, k * 3 + 1, none⟩ = some (.string (baR (txtR p))) := hc 1 (by omega)
        have k2 : wr.cell? ⟨g, k * 3 + 2, none⟩ = some (.string (baR (idsR p))) := hc 2 (by omega)
        have HSN := Lib.hid hsn
        clear hc hp hkl hsn hg
        cases p with
        | key f =>
          have hf : f.length ≤ 2000 := hsz.1
          have hs1 := spR_size f
          have SC := Lib.hid (fun w => spR_is f hf w)
          have q1 : ¬ 9223372036854775807 < S.size + 1 := by omega
          have q2 : ¬ 9223372036854775807 < S.size + 1 + (spR f).size := by omega
          unfold kindR at k0
          unfold txtR at k1
          dsimp only at k0 k1
          obtain ⟨F, hF⟩ : ∃ F, baR f = F := ⟨_, rfl⟩
          rw [hF] at k1 SC
          clear hF k2
          go_wp2_with (go_at_call 16; (with_reducible refine (SC.out _).mono ?_); rintro e w2 ⟨rfl, hb2⟩; have HB2 := Lib.hid (onB HB.out hb2))
          go_roundg (m - (k + 1))
          case measure => have := hq.out; omega
          case rel =>
            refine ⟨k + 1, _, by go_num, rfl, by omega, ?_, rfl, ?_, HB2.out⟩
            · rw [app_sizeU, app_sizeU]; show _ + 1 + _ ≤ _; omega
            · show _ = _
              rw [HSN.out, app_listU, app_listU, HS.out, spR_list]; simp [Pat.text]
        | anyKey =>
          have q1 : ¬ 9223372036854775807 < S.size + 2 := by omega
          unfold kindR at k0
          dsimp only at k0
          clear k1 k2
          go_wp2
          go_roundg (m - (k + 1))
          case measure => have := hq.out; omega
          case rel =>
            refine ⟨k + 1, _, by go_num, rfl, by omega, ?_, rfl, ?_, HB.out⟩
            · rw [app_sizeU]; show _ + 2 ≤ _; omega
            · show _ = _
              rw [HSN.out, app_listU, HS.out]; rfl
        | stars =>
          have q1 : ¬ 9223372036854775807 < S.size + 3 := by omega
          unfold kindR at k0
          dsimp only at k0
          clear k1 k2
          go_wp2
          go_roundg (m - (k + 1))
          case measure => have := hq.out; omega
          case rel =>
            refine ⟨k + 1, _, by go_num, rfl, by omega, ?_, rfl, ?_, HB.out⟩
            · rw [app_sizeU]; show _ + 3 ≤ _; omega
            · show _ = _
              rw [HSN.out, app_listU, HS.out]; rfl
        | anyAt =>
          have q1 : ¬ 9223372036854775807 < S.size + 3 := by omega
          unfold kindR at k0
          dsimp only at k0
          clear k1 k2
          go_wp2
          go_roundg (m - (k + 1))
          case measure => have := hq.out; omega
          case rel =>
            refine ⟨k + 1, _, by go_num, rfl, by omega, ?_, rfl, ?_, HB.out⟩
            · rw [app_sizeU]; show _ + 3 ≤ _; omega
            · show _ = _
              rw [HSN.out, app_listU, HS.out]; rfl
        | id f v =>
          have hf : f.length ≤ 2000 := hsz.1
          have hv : v.length ≤ 2000 := hsz.2
          have hs1 := spR_size f
          have hs2 := spR_size v
          have q1 : ¬ 9223372036854775807 < S.size + 1 := by omega
          have q2 : ¬ 9223372036854775807 < S.size + 1 + (spR f).size := by omega
          have q3 : ¬ 9223372036854775807 < S.size + 1 + (spR f).size + 1 := by omega
          have q4 : ¬ 9223372036854775807 < S.size + 1 + (spR f).size + 1 + (spR v).size := by omega
          have q5 : ¬ 9223372036854775807 < S.size + 1 + (spR f).size + 1 + (spR v).size + 1 := by omega
          unfold kindR at k0
          unfold txtR at k1
          unfold idsR at k2
          dsimp only at k0 k1 k2
          have sc1 := fun w => spR_is f hf w
          have sc2 := fun w => spR_is v hv w
          obtain ⟨F, hF⟩ : ∃ F, baR f = F := ⟨_, rfl⟩
          obtain ⟨V, hV⟩ : ∃ V, baR v = V := ⟨_, rfl⟩
          rw [hF] at k1 sc1
          rw [hV] at k2 sc2
          clear hF hV
          have C1 : Hid (∀ m : Later wr, Calls Tryd.prog 16 #[.string F] m.at_ fun e w'' => e = .returned (.string (spR f)) ∧ ∃ m' : Later wr, w'' = m'.at_) := fun m => calls_later ((sc1 m.at_).mono fun e w' h => ⟨h.1, onB m.below h.2⟩)
          have C2 : Hid (∀ m : Later wr, Calls Tryd.prog 16 #[.string V] m.at_ fun e w'' => e = .returned (.string (spR v)) ∧ ∃ m' : Later wr, w'' = m'.at_) := fun m => calls_later ((sc2 m.at_).mono fun e w' h => ⟨h.1, onB m.below h.2⟩)
          clear sc1 sc2
          have hki : (k : Int) < (m : Int) := by omega
          have hki0 : (0 : Int) ≤ (k : Int) := by omega
          go_wp2
          replace k1 := later_cell k1
          replace k2 := later_cell k2
          refine wp_region_later wr (by kernel_rfl) (by kernel_rfl) (Below.refl _ _) ?_
          repeat (go_big_quiet_step ((go_at_call 16; (first | (with_reducible exact C1.out _) | (with_reducible exact C2.out _)))))
          refine wpQuiet_nil ?_
          intro w2 hw2
          obtain ⟨⟨w2', hb2⟩, e4⟩ := hw2
          have e5 : w2 = w2' := e4
          subst e5
          clear e4 C1 C2 k0 k1 k2
          have HB2 := Lib.hid (onB HB.out hb2)
          go_wp2
          go_roundg (m - (k + 1))
          case measure => have := hq.out; omega
          case rel =>
            refine ⟨k + 1, _, by go_num, rfl, by omega, ?_, rfl, ?_, HB2.out⟩
            · rw [app_sizeU, app_sizeU, app_sizeU, app_sizeU, app_sizeU]; show _ + 1 + _ + 1 + _ + 1 ≤ _; omega
            · show _ = _
              rw [HSN.out, app_listU, app_listU, app_listU, app_listU, app_listU, HS.out, spR_list, spR_list]; simp [Pat.text]
        | anyId f =>
          have hf : f.length ≤ 2000 := hsz.1
          have hs1 := spR_size f
          have SC := Lib.hid (fun w => spR_is f hf w)
          have q1 : ¬ 9223372036854775807 < S.size + 1 := by omega
          have q2 : ¬ 9223372036854775807 < S.size + 1 + (spR f).size := by omega
          have q3 : ¬ 9223372036854775807 < S.size + 1 + (spR f).size + 3 := by omega
          unfold kindR at k0
          unfold txtR at k1
          dsimp only at k0 k1
          obtain ⟨F, hF⟩ : ∃ F, baR f = F := ⟨_, rfl⟩
          rw [hF] at k1 SC
          clear hF k2
          go_wp2_with (go_at_call 16; (with_reducible refine (SC.out _).mono ?_); rintro e w2 ⟨rfl, hb2⟩; have HB2 := Lib.hid (onB HB.out hb2))
          go_roundg (m - (k + 1))
          case measure => have := hq.out; omega
          case rel =>
            refine ⟨k + 1, _, by go_num, rfl, by omega, ?_, rfl, ?_, HB2.out⟩
            · rw [app_sizeU, app_sizeU, app_sizeU]; show _ + 1 + _ + 3 ≤ _; omega
            · show _ = _
              rw [HSN.out, app_listU, app_listU, app_listU, HS.out, spR_list]; simp [Pat.text]
      · obtain rfl : m = k := by omega
        have hf : Hid (S = ⟨(textL ps).toArray⟩) := str_ofU (by have := HS.out; rw [List.take_of_length_le (Nat.le_of_eq HN.out.symm)] at this; rw [hne.out]; exact this)
        go_wp2
        go_ret
        exact ⟨ret_strU hf.out, HB.out⟩

end Go.Proofs.YtjnedbkbhoiopaaDoor
