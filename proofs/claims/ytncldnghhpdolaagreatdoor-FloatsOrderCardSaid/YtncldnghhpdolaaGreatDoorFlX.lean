/- strings.IndexRune at a rune that is no ASCII byte, in a few ASCII bytes; strings.IndexAny of a few ASCII bytes in whatever bytes; no statement of the seat is proved here. -/
import Derived.Test.YtncldnghhpdolaaGreatDoorLat
import Derived.Test.YtncldnghhpdolaaGreatDoorShelf
import Derived.Lib.OthersKept
import Derived.Lib.MapLaws
import Derived.Lib.IndexAny
import Derived.Laws.Runes
import Derived.Shelf.Strings.IndexAnyAll
import Derived.BigQuiet
namespace Go.Proofs.YtncldnghhpdolaaGreatDoor
open Go.RowKit

/-- A rune that begins with a byte from 128 on: what it is, and that all its bytes are from 128 on. -/
theorem dec_hi (s : ByteArray) (pos : Nat) (h : pos < s.size) (hx : 128 ≤ s[pos].toNat) :
    128 ≤ (Utf8.decode s pos).1 ∧ (Utf8.decode s pos).1 ≤ 1114111 ∧ 1 ≤ (Utf8.decode s pos).2 ∧ pos + (Utf8.decode s pos).2 ≤ s.size ∧
    ∀ (j : Nat) b, pos ≤ j → j < pos + (Utf8.decode s pos).2 → s.data.toList[j]? = some b → 128 ≤ b.toNat := by
  have hl : s.data.toList.length = s.size := rfl
  have h0 : (s.data.toList.getD pos 0).toNat = s[pos].toNat := by
    rw [List.getD_eq_getElem?_getD, List.getElem?_eq_getElem (show pos < s.data.toList.length from h)]; rfl
  have hj : ∀ (j : Nat) b, s.data.toList[j]? = some b → (s.data.toList.getD j 0).toNat = b.toNat := fun j b e => by
    rw [List.getD_eq_getElem?_getD, e]; rfl
  have e := Lib.decode_N s pos
  have hlt : ∀ j, (s.data.toList.getD j 0).toNat < 256 := fun j => UInt8.toNat_lt _
  have g0 := hlt pos
  have g1 := hlt (pos + 1)
  have g2 := hlt (pos + 2)
  have g3 := hlt (pos + 3)
  rcases Lib.decodeN_shape (s.data.toList.length - pos) (s.data.toList.getD pos 0).toNat (s.data.toList.getD (pos + 1) 0).toNat (s.data.toList.getD (pos + 2) 0).toNat (s.data.toList.getD (pos + 3) 0).toNat with ⟨c, k⟩ | ⟨c1, c2, c3, cv, k⟩ | ⟨c1, c2, c3, c4, cv, cs, k⟩ | ⟨c1, c2, c3, c4, c5, cv, cw, k⟩ | k
  · omega
  · rw [e, k]
    refine ⟨by dsimp only; omega, by dsimp only; omega, by dsimp only; omega, by dsimp only; omega, fun j b h1 h2 h3 => ?_⟩
    dsimp only at h2
    have := hj j b h3
    rcases (show j = pos ∨ j = pos + 1 by omega) with rfl | rfl <;> omega
  · rw [e, k]
    refine ⟨by dsimp only; omega, by dsimp only; omega, by dsimp only; omega, by dsimp only; omega, fun j b h1 h2 h3 => ?_⟩
    dsimp only at h2
    have := hj j b h3
    rcases (show j = pos ∨ j = pos + 1 ∨ j = pos + 2 by omega) with rfl | rfl | rfl <;> omega
  · rw [e, k]
    refine ⟨by dsimp only; omega, by dsimp only; omega, by dsimp only; omega, by dsimp only; omega, fun j b h1 h2 h3 => ?_⟩
    dsimp only at h2
    have := hj j b h3
    rcases (show j = pos ∨ j = pos + 1 ∨ j = pos + 2 ∨ j = pos + 3 by omega) with rfl | rfl | rfl | rfl <;> omega
  · rw [e, k]
    refine ⟨by dsimp only; omega, by dsimp only; omega, by dsimp only; omega, by dsimp only; omega, fun j b h1 h2 h3 => ?_⟩
    dsimp only at h2
    have := hj j b h3
    have : j = pos := by omega
    subst this; omega

set_option maxRecDepth 100000 in
set_option maxHeartbeats 2000000 in
/-- The rune that stands for what is none: not in ASCII bytes. -/
theorem ixr_err (cs : ByteArray) (_hc : cs.size ≤ 1000) (ha : ∀ (j : Nat) b, cs.data.toList[j]? = some b → b.toNat < 128) (w : World) :
    Calls Tryz.prog 69 #[.string cs, .int .i32 65533] w fun e w' => e = .returned (.int .i64 (-1)) ∧ Below w.heap.size w w' := by
  have HA := Lib.hid ha; clear ha
  go_enter Tryz.func69, Tryz.ntmps69
  go_wp2
  go_loopg [5, 6] cs.size (fun g _ _ wx => ∃ i : Nat, i + g = cs.size ∧ wx = w.iter cs i)
  case atStart => exact ⟨0, by omega, rfl⟩
  case round =>
    obtain ⟨i, hig, rfl⟩ := hrel
    cases gk with
    | zero =>
      obtain rfl : i = cs.size := by omega
      have hnx := run_next_end (P := Tryz.prog) w cs cs.size
      go_wp2
      go_ret
      exact ⟨rfl, below_new1 _ _⟩
    | succ g =>
      have hi : i < cs.size := by omega
      have hx : (cs[i]'hi).toNat < 128 := HA.out i _ (Lib.data_getElem? cs i hi)
      have hnx := fun ty => run_next_ascii (P := Tryz.prog) w cs i ty hi hx
      generalize cs[i] = x at hx hnx
      have hne : ((x.toNat : Int) == 65533) = false := beq_eq_false_iff_ne.2 (by omega)
      go_wp2
      go_roundg g
      case measure => omega
      case rel => exact ⟨i + 1, by omega, rfl⟩

/-- ASCII bytes have no byte from 128 on. -/
theorem ixb_hi (cs : ByteArray) (a e : Nat) (ha : ∀ (j : Nat) b, cs.data.toList[j]? = some b → b.toNat < 128) (x : UInt8) (hx : 128 ≤ x.toNat) : Lib.indexByte (cs.extract a e).data.toList x = -1 := by
  rcases (by have := Lib.indexByte_ge (cs.extract a e).data.toList x; omega : Lib.indexByte (cs.extract a e).data.toList x = -1 ∨ 0 ≤ Lib.indexByte (cs.extract a e).data.toList x) with h | h
  · exact h
  · obtain ⟨i, hi⟩ : ∃ i : Nat, Lib.indexByte (cs.extract a e).data.toList x = (i : Int) := ⟨_, (Int.toNat_of_nonneg h).symm⟩
    obtain ⟨h1, _⟩ := Lib.indexByte_some hi
    have h2 : x ∈ (cs.extract a e).data.toList := List.mem_of_getElem? h1
    have h3 := mem_extract h2
    obtain ⟨j, hj, e⟩ := List.mem_iff_getElem.1 h3
    have := ha j x (by rw [List.getElem?_eq_getElem hj, e])
    omega

set_option maxRecDepth 100000 in
set_option maxHeartbeats 4000000 in
/-- A rune from 128 on: not in a few ASCII bytes. -/
theorem ixr_hi (cs : ByteArray) (hc : cs.size ≤ 3) (ha : ∀ (j : Nat) b, cs.data.toList[j]? = some b → b.toNat < 128) (r : Int) (h1 : 128 ≤ r) (h2 : r ≤ 1114111) (w : World) :
    Calls Tryz.prog 69 #[.string cs, .int .i32 r] w fun e w' => e = .returned (.int .i64 (-1)) ∧ Below w.heap.size w w' := by
  by_cases he : r = 65533
  · subst he; exact ixr_err cs (by omega) ha w
  · have ne : (r == 65533) = false := beq_eq_false_iff_ne.2 he
    have HV := Lib.hid (Tryz.utf8_ValidRune r)
    have n128 : ¬ r < 128 := by omega
    cases hv : Lib.validRune r
    · rw [hv] at HV
      clear ha he
      go_enter Tryz.func69, Tryz.ntmps69
      go_wp2_with (go_at_call 99; refine (HV.out _).mono ?_; rintro e w' ⟨rfl, hw⟩; rw [hw])
      go_ret
      exact ⟨rfl, Below.refl _ _⟩
    · rw [hv] at HV
      obtain ⟨e1, e2, e3⟩ := encode_facts r (by rw [validRune_eq]; exact hv) h1
      obtain ⟨R, hR⟩ : ∃ R, R = Utf8.encode r := ⟨_, rfl⟩
      rw [← hR] at e1 e2 e3
      obtain ⟨k, hk⟩ : ∃ k : Nat, R.size = k + 1 := ⟨R.size - 1, by omega⟩
      have hkR : k < R.size := by omega
      have e4 : 128 ≤ (R[k]'hkR).toNat := by have := e3 (by omega); simpa [hk] using this
      clear e3
      have hcv := fun w => run_convert_int_string (P := Tryz.prog) w 21 9 .i32 r (by rw [Tryz.underlying21]; rfl) Tryz.underlying9
      simp only [← hR] at hcv
      clear hR
      have kz : (R.size : Int) - 1 = (k : Int) := by omega
      obtain ⟨x, hx⟩ : ∃ x, x = R[k]'hkR := ⟨_, rfl⟩
      rw [← hx] at e4
      by_cases hlt : k < cs.size
      · have hd : decide ((k : Int) < (cs.size : Int)) = true := decide_eq_true (by omega)
        have hy1 : (cs[k]'hlt).toNat < 128 := ha k _ (Lib.data_getElem? cs k hlt)
        have hne : (((cs[k]'hlt).toNat : Int) != ((R[k]'hkR).toNat : Int)) = true := by rw [← hx]; simp; omega
        have HI := Lib.hid (fun w => Tryz.strings_IndexByte (cs.extract (k + 1) cs.size) ((R[k]'hkR).toNat : Int) w)
        rw [show (((R[k]'hkR).toNat : Int)).toNat.toUInt8 = x by rw [hx]; simp, ixb_hi cs (k + 1) cs.size ha x e4] at HI
        have k1 : IntKind.i64.wrap ((k : Int) + 1) = (k : Int) + 1 := IntWalk.i64_in _ (by omega)
        clear ha he hk e1 e2
        go_enter Tryz.func69, Tryz.ntmps69
        go_wp2_with (go_at_call 99; refine (HV.out _).mono ?_; rintro e w' ⟨rfl, hw⟩; rw [hw])
        refine wp_scope_fwd 1 rfl ?_
        go_wp2
        refine wp_loop_rounds 1 ?_
        rw [rounds_succ]
        go_wp2
        refine wp_scope_fwd 0 rfl ?_
        go_upto_if 33 with (fail)
        go_quiet (fail)
        go_wp2
        have s1 : (0 : Int) ≤ (k : Int) + 1 := by omega
        have s2 : (k : Int) + 1 ≤ (cs.size : Int) := by omega
        go_quiet ((go_at_call 95; exact (HI.out _).mono (fun _ _ h => ⟨h.1, _, h.2⟩)))
        go_wp2
        rw [jump_ret]
        go_wp2
        rw [jump_ret]
        go_ret
        exact ⟨rfl, ⟨rfl, rfl, rfl, Nat.le_refl _, fun _ _ => rfl⟩⟩
      · have hd : decide ((k : Int) < (cs.size : Int)) = false := decide_eq_false (by omega)
        clear ha he
        go_enter Tryz.func69, Tryz.ntmps69
        go_wp2_with (go_at_call 99; refine (HV.out _).mono ?_; rintro e w' ⟨rfl, hw⟩; rw [hw])
        refine wp_scope_fwd 1 rfl ?_
        go_wp2
        refine wp_loop_rounds 1 ?_
        rw [rounds_succ]
        go_wp2
        rw [jump_ret]
        go_ret
        exact ⟨rfl, Below.refl _ _⟩

theorem noany_add {l cs : List UInt8} {i k : Nat} (h : Lib.NoAny l cs i) (ha : ∀ (j : Nat) b, cs[j]? = some b → b.toNat < 128) (hk : ∀ (j : Nat) b, i ≤ j → j < i + k → l[j]? = some b → 128 ≤ b.toNat) : Lib.NoAny l cs (i + k) := by
  intro j b hj hb
  by_cases hji : j < i
  · exact h j b hji hb
  · have := hk j b (by omega) hj hb
    cases hc : cs.contains b
    · rfl
    · obtain ⟨n, hn, e⟩ := List.mem_iff_getElem.1 (List.contains_iff_mem.1 hc)
      have := ha n b (by rw [List.getElem?_eq_getElem hn, e])
      omega

set_option maxRecDepth 1000000 in
set_option maxHeartbeats 8000000 in
/-- strings.IndexAny of two or three ASCII bytes, in whatever bytes. -/
theorem ixa_is (s cs : ByteArray) (hs : s.size ≤ 1000000) (h2 : 2 ≤ cs.size) (h3 : cs.size ≤ 3) (ha : ∀ (j : Nat) b, cs.data.toList[j]? = some b → b.toNat < 128) (w : World) :
    Calls Tryz.prog 41 #[.string s, .string cs] w fun e w' => e = .returned (.int .i64 (Lib.indexAny s.data.toList cs.data.toList)) ∧ Below w.heap.size w w' := by
  by_cases h8 : 8 < s.size
  · have h116 : (Tryz.prog.info? 78).map (fun i => (i.zero, i.size)) = some (some (.agg (Array.replicate 256 (.bool false))), 256) := by kernel_rfl
    refine (Any.strings_IndexAny_long Tryz.lays153 (zero_of_info h116).1 (zero_of_info h116).2 s cs w h2 h8 (by omega) (by omega) ha).mono ?_
    rintro e w' ⟨rfl, rfl⟩
    exact ⟨rfl, ((Below.refl _ w).alloc (Nat.le_refl _) _).alloc (by simp) _⟩
  · have HA := Lib.hid ha
    have hemp : cs.toList.isEmpty = false := by
      rw [ByteArray.toList_eq]
      cases h : cs.data.toList with
      | nil => have : cs.data.toList.length = cs.size := rfl; rw [h, List.length_nil] at this; omega
      | cons _ _ => rfl
    have hn1 : ((cs.size : Int) == 1) = false := beq_eq_false_iff_ne.2 (by omega)
    have h8z : decide ((8 : Int) < (s.size : Int)) = false := decide_eq_false (by omega)
    have HS := Lib.hid (fun w => Any.strings_shouldUseASCIISet { Tryz.lays153 with } (s.size : Int) w)
    rw [h8z] at HS
    clear ha
    go_enter Tryz.func41, Tryz.ntmps41
    go_wp2_with (go_at_call 70; refine (HS.out _).mono ?_; rintro e w' ⟨rfl, hw⟩; rw [hw])
    go_loopg [9, 10] s.size (fun g _ _ wx => ∃ i : Nat, i + g = s.size ∧ wx.heap[w.heap.size]? = some (.stringIter s i) ∧ Below w.heap.size w wx ∧ Hid (Lib.NoAny s.data.toList cs.data.toList i))
    case atStart => exact ⟨0, by omega, World.iter_heap w s 0, below_new1 _ _, Lib.NoAny.zero _ _⟩
    case round =>
      obtain ⟨i, hig, hit, hbw, hno⟩ := hrel
      have hsz : w.heap.size < wr.heap.size := (Array.getElem?_eq_some_iff.1 hit).1
      have hlen : s.data.toList.length = s.size := rfl
      have HN := Lib.hid hno
      cases gk with
      | zero =>
        have hni : ¬ i < s.size := by omega
        have hnx : ∀ ty, (Instr.next (.pointer (some ⟨w.heap.size, 0, none⟩)) true ty).run Tryz.prog wr = _ := fun ty => Lib.run_next_end_at wr w.heap.size s i ty hit hni
        have HR : Hid (Lib.indexAny s.data.toList cs.data.toList = -1) := Lib.indexAny_none (by rw [hlen, show s.size = i by omega]; exact hno.out)
        clear hno hlen
        go_wp2
        go_ret
        exact ⟨by rw [HR.out]; rfl, hbw⟩
      | succ g =>
        have hi : i < s.size := by omega
        by_cases hx : (s[i]'hi).toNat < 128
        · have hnx : ∀ ty, (Instr.next (.pointer (some ⟨w.heap.size, 0, none⟩)) true ty).run Tryz.prog wr = _ := fun ty => Lib.run_next_ascii_at wr w.heap.size s i ty hit hi hx
          have hit2 := Lib.iterAt_heap wr w.heap.size s i (i + 1) hit
          have hbw2 := Lib.below_iterAt hbw (k := w.heap.size) (by omega) s (i + 1)
          have hxl : s.data.toList[i]? = some (s[i]'hi) := Lib.data_getElem? s i hi
          have hcon := Lib.contains_iff_indexByte cs.data.toList (s[i]'hi)
          have HI := Lib.hid (fun w => Tryz.strings_IndexRune_ascii cs ((s[i]'hi).toNat : Int) w (by omega) (by omega))
          rw [show (((s[i]'hi).toNat : Int)).toNat.toUInt8 = s[i]'hi by simp] at HI
          generalize (s[i]'hi) = x at hx hnx hxl hcon HI
          generalize wr.iterAt w.heap.size s (i + 1) = w2 at hnx hit2 hbw2
          cases hin : cs.data.toList.contains x
          · rw [hin] at hcon
            have hlt : ¬ ((0 : Int) ≤ Lib.indexByte cs.data.toList x) := of_decide_eq_false hcon.symm
            have HN2 : Hid (Lib.NoAny s.data.toList cs.data.toList (i + 1)) := hno.out.succ hxl hin
            clear hcon hin hxl hno hlen
            go_wp2_with (go_at_call 69; refine (HI.out _).mono ?_; rintro e w' ⟨rfl, hw⟩; rw [hw])
            go_roundg g
            case measure => omega
            case rel => exact ⟨i + 1, by omega, hit2, hbw2, HN2.out⟩
          · rw [hin] at hcon
            have hge : (0 : Int) ≤ Lib.indexByte cs.data.toList x := of_decide_eq_true hcon.symm
            have HR : Hid (Lib.indexAny s.data.toList cs.data.toList = (i : Int)) := Lib.indexAny_hit hno.out hxl hin
            clear hcon hin hxl hno hlen
            go_wp2_with (go_at_call 69; refine (HI.out _).mono ?_; rintro e w' ⟨rfl, hw⟩; rw [hw])
            go_ret
            exact ⟨by rw [HR.out]; rfl, hbw2⟩
        · obtain ⟨d1, d2, d3, d4, d5⟩ := dec_hi s i hi (by omega)
          have hnx : ∀ ty, (Instr.next (.pointer (some ⟨w.heap.size, 0, none⟩)) true ty).run Tryz.prog wr = _ := fun ty => Lib.run_next_any_at wr w.heap.size s i ty hit hi
          have hit2 := Lib.iterAt_heap wr w.heap.size s i (i + (Utf8.decode s i).2) hit
          have hbw2 := Lib.below_iterAt hbw (k := w.heap.size) (by omega) s (i + (Utf8.decode s i).2)
          have HN2 : Hid (Lib.NoAny s.data.toList cs.data.toList (i + (Utf8.decode s i).2)) := noany_add hno.out HA.out d5
          have HI := Lib.hid (fun w => ixr_hi cs h3 HA.out ((Utf8.decode s i).1 : Int) (by omega) (by omega) w)
          generalize (Utf8.decode s i).1 = r at hnx HI
          generalize (Utf8.decode s i).2 = k at *
          generalize wr.iterAt w.heap.size s (i + k) = w2 at hnx hit2 hbw2
          have hsz2 : w.heap.size < w2.heap.size := (Array.getElem?_eq_some_iff.1 hit2).1
          clear hno hlen hx d1 d2 d5
          go_wp2_with (go_at_call 69; refine (HI.out _).mono ?_; rintro e w' ⟨rfl, hb'⟩)
          go_roundg (s.size - (i + k))
          case measure => omega
          case rel => exact ⟨i + k, by omega, (hb'.block _ hsz2).trans hit2, hbw2.trans (hb'.mono hbw2.size), HN2.out⟩

end Go.Proofs.YtncldnghhpdolaaGreatDoor
