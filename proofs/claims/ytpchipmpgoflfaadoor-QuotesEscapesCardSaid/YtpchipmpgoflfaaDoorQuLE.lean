/- The walk of the law QuotesEscapes; no statement of the seat is proved here. -/
import Derived.Test.YtpchipmpgoflfaaDoorQuK
import Derived.Test.YtpchipmpgoflfaaDoorQuLC
import Derived.Test.YtpchipmpgoflfaaDoorAp1
namespace Go.Proofs.YtpchipmpgoflfaaDoor
open Go.RowKit

theorem row_is {w : World} {a : Option Addr} {len cap : Nat} {zs : List Int} (h : (a = none ∧ len = 0 ∧ cap = 0 ∧ zs = []) ∨
    ∃ x, a = some x ∧ len ≤ cap ∧ cap ≤ maxLen ∧ zs.length = cap ∧ (∀ i, i < zs.length → w.cell? (x.add i) = some (.int .i64 (zs.getD i 0))) ∧ ∀ n ∈ zs, (Lit.int .i64 n).wf = true) :
    ∃ l : List Int, l.length = len ∧ len ≤ cap ∧ cap ≤ maxLen ∧ IS w w.heap.size a l := by
  rcases h with ⟨rfl, rfl, rfl, rfl⟩ | ⟨x, rfl, hl, hm, hz, hc, hw⟩
  · exact ⟨[], rfl, Nat.le_refl _, by omega, fun k hk => by simp at hk⟩
  · refine ⟨zs.take len, by simp; omega, hl, hm, ?_⟩
    intro k hk
    have hk' : k < len ∧ k < zs.length := by simp at hk; omega
    have hcell := hc k hk'.2
    refine ⟨x, rfl, ?_, ?_⟩
    · have hb : (x.add k).block < w.heap.size := by
        rcases Nat.lt_or_ge (x.add k).block w.heap.size with h | h
        · exact h
        · simp [World.cell?, Array.getElem?_eq_none h] at hcell
      rwa [add_block] at hb
    · rw [hcell]
      simp [List.getD, hk'.2]
theorem hex_at (a : Int) (p : Nat) (ha : a = (p : Int)) (hp : p < 65536) (up : Bool) (t : ByteArray) (ht : t.data.toList = hexL p up) (w : World) :
    Calls Tryd.prog 14 #[.int .i64 a, .bool up] w fun e w' => e = .returned (.string t) ∧ w = w' := by
  subst ha
  refine (hex_any p hp up w).mono fun e w' ⟨h1, h2⟩ => ⟨?_, h2.symm⟩
  rw [h1, ← ht]
theorem hex_str (p : Nat) (up : Bool) : ∃ t : ByteArray, Hid (t.data.toList = hexL p up) ∧ t.size = 6 := ⟨⟨(hexL p up).toArray⟩, by show _ = _; simp, rfl⟩
def intVals (rs : List Nat) : List Value := rs.map fun n : Nat => Value.int .i64 (n : Int)
theorem intVals_len (rs : List Nat) : (intVals rs).length = rs.length := by simp [intVals]
theorem own_is {w : World} {base : Nat} {e : TypeId} {A : Option Addr} {n c : Nat} {rs : List Nat} (h : w.ownsRow base e 1 (.slice A n c) n (intVals rs)) : n = rs.length ∧ IS w w.heap.size A (rs.map fun n : Nat => (n : Int)) := by
  have hn : n = rs.length := by have := h.1; rw [intVals_len] at this; omega
  refine ⟨hn, fun k hk => ?_⟩
  have hk' : k < rs.length := by simpa using hk
  obtain ⟨g, hA, _, hg, hc⟩ := (OwnS.of_own h).cell (j := k) (by omega)
  exact ⟨_, hA, hg, by rw [add_plain, Nat.zero_add, hc]; simp [intVals]⟩
theorem put_at (A : Option Addr) (rs : List Int) (n c : Nat) (hn : n = rs.length) (hl : n ≤ 1073741824) (w : World) (hI : IS w w.heap.size A rs) {w0 : World} (hb : Below w0.heap.size w0 w) :
    Calls Tryd.prog 15 #[.slice A n c] w fun e w' => ∃ A' m, e = .returned (.slice A' m m) ∧ m = (putL rs).length ∧ BS w' w'.heap.size A' (putL rs) ∧ Below w0.heap.size w0 w' :=
  (put_any A rs n c hn hl w hI).mono fun _ _ ⟨A', m, e, h1, h2⟩ => ⟨A', m, e, h1.bs.1, h1.bs.2, hb.trans (h2.mono hb.size)⟩
theorem put_atL (A : Option Addr) (rs : List Int) (n c : Nat) (hn : n = rs.length) (hl : n ≤ 1073741824) (w : World) (hI : IS w w.heap.size A rs) {w0 : World} (hb : Below w0.heap.size w0 w) (l : List UInt8) (h : putL rs = l) :
    Calls Tryd.prog 15 #[.slice A n c] w fun e w' => ∃ A' m, e = .returned (.slice A' m m) ∧ m = l.length ∧ BS w' w'.heap.size A' l ∧ Below w0.heap.size w0 w' := by
  subst h
  exact put_at A rs n c hn hl w hI hb
theorem is_at {w0 : World} (hG : Glob w0) (s : ByteArray) (want : ByteArray) (b : Bool) (h : decide (readQ s.data.toList = (want.data.toList, 0, 0)) = b) (hs : s.size ≤ 16777216) (w : World) (hb : Below w0.heap.size w0 w) :
    Calls Tryd.prog 13 #[.string s, .string want] w fun e w' => e = .returned (.bool b) ∧ Below w0.heap.size w0 w' := by
  subst h
  exact (is_any s hs want w (hG.keep hb (Nat.le_refl _))).mono fun _ _ ⟨e, h⟩ => ⟨e, hb.trans (h.mono hb.size)⟩
theorem lives_at {w0 : World} (hG : Glob w0) (w : World) (hb : Below w0.heap.size w0 w) :
    Calls Tryd.prog 8 #[] w fun e w' => e = .returned (.bool true) ∧ Below w0.heap.size w0 w' :=
  (lives_any w (hG.keep hb (Nat.le_refl _))).mono fun _ _ ⟨e, h⟩ => ⟨e, hb.trans (h.mono hb.size)⟩
theorem int_info : (Tryd.prog.info? 3).map (fun i => (i.zero, i.size, i.bytes)) = some (some (.int .i64 0), 1, 8) := by kernel_rfl

theorem str0 {b : ByteArray} {L : List UInt8} (hb : b.data.toList = L) : ((⟨#[34]⟩ : ByteArray) ++ b ++ ⟨#[34]⟩).data.toList = 34 :: (L ++ [34]) := by simp [hb]
theorem str1 {b t : ByteArray} {L T : List UInt8} (hb : b.data.toList = L) (ht : t.data.toList = T) : ((⟨#[34]⟩ : ByteArray) ++ b ++ t ++ ⟨#[34]⟩).data.toList = 34 :: (L ++ (T ++ [34])) := by simp [hb, ht]
theorem str2 {b t u : ByteArray} {L T U : List UInt8} (hb : b.data.toList = L) (ht : t.data.toList = T) (hu : u.data.toList = U) : ((⟨#[34]⟩ : ByteArray) ++ b ++ t ++ u ++ ⟨#[34]⟩).data.toList = 34 :: (L ++ (T ++ (U ++ [34]))) := by simp [hb, ht, hu]
theorem str3 {b t u : ByteArray} {L T U : List UInt8} (hb : b.data.toList = L) (ht : t.data.toList = T) (hu : u.data.toList = U) : ((⟨#[34]⟩ : ByteArray) ++ b ++ t ++ ⟨#[97]⟩ ++ u ++ ⟨#[34]⟩).data.toList = 34 :: (L ++ (T ++ 97 :: (U ++ [34]))) := by simp [hb, ht, hu]
theorem snoc1 {b t : ByteArray} {up : Bool} {rs : List Nat} {n : Nat} (hb : b.data.toList = escUs up rs) (ht : t.data.toList = hexL n up) (h : n < 65536) : (b ++ t).data.toList = escUs up (rs ++ [n]) := by
  rw [escUs_snoc, escU, if_pos h, ← hb, ← ht]; simp
theorem snoc2 {b t u : ByteArray} {up : Bool} {rs : List Nat} {n : Nat} (hb : b.data.toList = escUs up rs) (ht : t.data.toList = hexL (55296 + (n - 65536) / 1024) up) (hu : u.data.toList = hexL (56320 + (n - 65536) % 1024) up) (h : ¬ n < 65536) : (b ++ t ++ u).data.toList = escUs up (rs ++ [n]) := by
  rw [escUs_snoc, escU, if_neg h, ← hb, ← ht, ← hu]; simp

/-- Is the half a high one? -/
def hiB (n : Nat) : Bool := decide (55296 + (n : Int) * 7 % 2048 < 56320)
/-- The rune of the last pair. -/
def lastR (n : Nat) : Nat := 65536 + 1024 * (7 * n) + n
theorem hiB_eq {n : Nat} (h : n ≤ 200) : hiB n = decide (7 * n < 1024) := by
  have em : (n : Int) * 7 % 2048 = (n : Int) * 7 := Int.emod_eq_of_lt (by omega) (by omega)
  unfold hiB
  rw [em, Bool.eq_iff_iff, decide_eq_true_iff, decide_eq_true_iff]
  omega

set_option maxRecDepth 100000 in
set_option maxHeartbeats 4000000 in
theorem esclaw_walk (a0 : Option Addr) (zs : List Int) (len0 cap0 : Nat) (hlen : zs.length = len0) (_hcap : len0 ≤ cap0) (up : Bool) (w : World) (hI : IS w w.heap.size a0 zs) (hG : Glob w) :
    Calls Tryd.prog 6 #[.slice a0 len0 cap0, .bool up] w fun e w' => e = .returned (.bool true) ∧ Below w.heap.size w w' := by
  have HG := Lib.hid hG; clear hG
  have HI := Lib.hid hI; clear hI
  have HL := Lib.hid hlen; clear hlen
  obtain ⟨i0, hi, hz0, hz1, hz2⟩ := info_parts int_info
  by_cases hbig : 200 < len0
  · clear hi hz0 hz1 hz2
    go_enter Tryd.func6, Tryd.ntmps6
    go_wp2_with (go_at_call 8; refine (lives_any _ HG.out).mono ?_; rintro e w1 ⟨rfl, hb1⟩)
    go_ret
    exact ⟨rfl, hb1⟩
  have Hi := Lib.hid hi; have Hz0 := Lib.hid hz0; have Hz1 := Lib.hid hz1; have Hz2 := Lib.hid hz2
  clear hi hz0 hz1 hz2
  go_enter Tryd.func6, Tryd.ntmps6
  go_wp2_with fail
  go_loopg [5, 6, 7] len0 (fun g s5 s6 s7 wr => ∃ (k : Nat) (rs : List Nat) (b : ByteArray) (A : Option Addr) (n c : Nat), s7 = .int .i64 k ∧ k ≤ len0 ∧ s5 = .string b ∧ s6 = .slice A n c ∧ n ≤ k ∧ b.size ≤ 12 * k ∧ Hid (g = len0 - k) ∧ Hid (wr.ownsRow w.heap.size 3 1 (.slice A n c) n (intVals rs)) ∧ Hid (b.data.toList = escUs up rs) ∧ Hid (∀ n ∈ rs, runeOk n) ∧ Below w.heap.size w wr)
  case atStart => exact ⟨0, [], ⟨#[]⟩, none, 0, 0, rfl, by omega, rfl, rfl, by omega, by decide, rfl, World.ownsRow_nil _ _ _ _, rfl, fun n hn => by simp at hn, Below.refl _ _⟩
  case round =>
    obtain ⟨k, rs, b, A, n, c, rfl, hk, rfl, rfl, hnk, hbl, hg, hown, hb, hok, hbw⟩ := hrel
    have hbs := hbw.size
    by_cases hlt : k < len0
    · obtain ⟨x, rfl, hx, hc0⟩ := HI.out k (by rw [HL.out]; exact hlt)
      obtain ⟨z, hz⟩ : ∃ z, z = zs[k]'(by rw [HL.out]; exact hlt) := ⟨_, rfl⟩
      rw [← hz] at hc0
      clear hz
      have hc : wr.cell? (x.add k) = some (.int .i64 z) := (hbw.cell (by rw [add_block]; exact hx)).trans hc0
      clear hc0
      by_cases hbad : z < 0 ∨ 1114111 < z ∨ (55296 ≤ z ∧ z ≤ 57343)
      · rcases hbad with hbad | hbad | hbad
        · go_wp2
          go_roundg (len0 - (k + 1))
          case measure => have := hg.out; omega
          case rel => exact ⟨k + 1, rs, b, A, n, c, by go_num, by omega, rfl, rfl, by omega, by omega, rfl, hown.out, hb.out, hok.out, hbw⟩
        · go_wp2
          go_roundg (len0 - (k + 1))
          case measure => have := hg.out; omega
          case rel => exact ⟨k + 1, rs, b, A, n, c, by go_num, by omega, rfl, rfl, by omega, by omega, rfl, hown.out, hb.out, hok.out, hbw⟩
        · obtain ⟨hb1, hb2⟩ := hbad
          go_wp2
          go_roundg (len0 - (k + 1))
          case measure => have := hg.out; omega
          case rel => exact ⟨k + 1, rs, b, A, n, c, by go_num, by omega, rfl, rfl, by omega, by omega, rfl, hown.out, hb.out, hok.out, hbw⟩
      · have hz1' : 0 ≤ z ∧ z ≤ 1114111 ∧ (z < 55296 ∨ 57343 < z) := by omega
        clear hbad
        obtain ⟨h0, h1, h2⟩ := hz1'
        obtain ⟨m, hm0⟩ := Int.eq_ofNat_of_zero_le h0
        have HM := Lib.hid hm0; clear hm0
        have hok' : Hid (∀ n ∈ rs ++ [m], runeOk n) := fun q hq => by
          simp at hq
          rcases hq with hq | rfl
          · exact hok.out q hq
          · have := HM.out
            exact ⟨by omega, by omega⟩
        have hw : (z < 55296 ∨ 57343 < z ∧ z < 65536) ∨ 65536 ≤ z := by omega
        clear h2
        rcases hw with hw | hw
        · rcases hw with hw | hw
          all_goals
            have h16' : m < 65536 := by have := HM.out; omega
            have H16 := Lib.hid h16'; clear h16'
            obtain ⟨t1, ht1, hs1⟩ := hex_str m up
            have hb' := Lib.hid (snoc1 hb.out ht1.out H16.out)
            go_wp2_with (at_builtin; refine wpList_app1 _ rfl _ _ 32 rfl w.heap.size 3 i0 _ 1 8 Tryd.underlying32 Hi.out Hz0.out Hz1.out Hz2.out rfl (by decide) A n c (intVals rs) rfl hown.out [.int .i64 z] _ rfl rfl (fun u hu => by simp at hu; subst hu; rfl) (by omega) (by decide) hbs ?_; intro A' c' w1 hown1 hc1 hb1)
            have HO := Lib.hid hown1; clear hown1 hown
            have hbw1 := hbw.trans hb1
            clear hb1
            go_wp2_with fail
            refine (hex_at _ m HM.out H16.out up t1 ht1.out _).mono ?_
            rintro e w2 ⟨rfl, rfl⟩
            go_wp2
            go_roundg (len0 - (k + 1))
            case measure => have := hg.out; omega
            case rel =>
              refine ⟨k + 1, rs ++ [m], _, A', n + 1, c', by go_num, by omega, rfl, rfl, by omega, by rw [app_sz, hs1]; omega, rfl, ?_, hb'.out, hok'.out, hbw1⟩
              have := HO.out
              rw [HM.out] at this
              show World.ownsRow _ _ _ _ _ _ _
              simpa [intVals] using this
        · have h16' : ¬ m < 65536 := by have := HM.out; omega
          have H16 := Lib.hid h16'; clear h16'
          have h1m : m ≤ 1114111 := by have := HM.out; omega
          have H1M := Lib.hid h1m; clear h1m
          obtain ⟨t1, ht1, hs1⟩ := hex_str (55296 + (m - 65536) / 1024) up
          obtain ⟨t2, ht2, hs2⟩ := hex_str (56320 + (m - 65536) % 1024) up
          have hb' := Lib.hid (snoc2 hb.out ht1.out ht2.out H16.out)
          go_wp2_with (at_builtin; refine wpList_app1 _ rfl _ _ 32 rfl w.heap.size 3 i0 _ 1 8 Tryd.underlying32 Hi.out Hz0.out Hz1.out Hz2.out rfl (by decide) A n c (intVals rs) rfl hown.out [.int .i64 z] _ rfl rfl (fun u hu => by simp at hu; subst hu; rfl) (by omega) (by decide) hbs ?_; intro A' c' w1 hown1 hc1 hb1)
          have HO := Lib.hid hown1; clear hown1 hown
          have hbw1 := hbw.trans hb1
          clear hb1
          go_wp2_with fail
          refine (hex_at _ (55296 + (m - 65536) / 1024) (by have := HM.out; have := H16.out; omega) (by have := H1M.out; omega) up t1 ht1.out _).mono ?_
          rintro e w2 ⟨rfl, rfl⟩
          go_wp2_with fail
          refine (hex_at _ (56320 + (m - 65536) % 1024) (by have := HM.out; have := H16.out; omega) (by omega) up t2 ht2.out _).mono ?_
          rintro e w2 ⟨rfl, rfl⟩
          go_wp2
          go_roundg (len0 - (k + 1))
          case measure => have := hg.out; omega
          case rel =>
            refine ⟨k + 1, rs ++ [m], _, A', n + 1, c', by go_num, by omega, rfl, rfl, by omega, by rw [app_sz, app_sz, hs1, hs2]; omega, rfl, ?_, hb'.out, hok'.out, hbw1⟩
            have := HO.out
            rw [HM.out] at this
            show World.ownsRow _ _ _ _ _ _ _
            simpa [intVals] using this
    · have hbe : Hid ((escUs up rs).length = b.size) := by show _ = _; rw [← hb.out]; rfl
      have hnr := Lib.hid (own_is hown.out)
      have hn200 : n ≤ 200 := by omega
      have hb2400 : b.size ≤ 2400 := by omega
      have hL : len0 ≤ 200 := by omega
      obtain ⟨t1, ht1, hs1⟩ := hex_str (56320 + len0) up
      obtain ⟨t2, ht2, hs2⟩ := hex_str (55296 + 7 * len0) up
      have f1 := Lib.hid (esc_half (up := up) (rs := rs) hok.out (p := 55296 + 7 * len0) (y := 34) (r := []) (by omega) (by omega) (.inr (by decide)))
      have f2 := Lib.hid (esc_half (up := up) (rs := rs) hok.out (p := 55296 + 7 * len0) (y := 97) (r := hexL (56320 + len0) up ++ [34]) (by omega) (by omega) (.inr (by decide)))
      have f3 := Lib.hid (esc_half (up := up) (rs := rs) hok.out (p := 56320 + len0) (y := 92) (r := (hexL (55296 + 7 * len0) up).tail ++ [34]) (by omega) (by omega) (.inl (by omega)))
      have HGr := Lib.hid (HG.out.keep hbw (Nat.le_refl _))
      have f4 : ∀ want : ByteArray, want.data.toList = putL ((rs ++ [lastR len0]).map fun n : Nat => (n : Int)) → decide (readQ ((⟨#[34]⟩ : ByteArray) ++ b ++ t2 ++ t1 ++ ⟨#[34]⟩).data.toList = (want.data.toList, 0, 0)) = hiB len0 := fun want hw => by
        rw [str2 hb.out ht2.out ht1.out, hiB_eq hL]
        by_cases hh : 7 * len0 < 1024
        · rw [decide_eq_true hh]
          refine decide_eq_true ?_
          rw [esc_pair hok.out (p := 55296 + 7 * len0) (q := 56320 + len0) (by omega) (by omega) (by omega) (by omega), hw, show 55296 + 7 * len0 - 55296 = 7 * len0 by omega, show 56320 + len0 - 56320 = len0 by omega]
          rfl
        · rw [decide_eq_false hh]
          refine decide_eq_false ?_
          have := esc_half (up := up) (rs := rs) hok.out (p := 55296 + 7 * len0) (y := 92) (r := (hexL (56320 + len0) up).tail ++ [34]) (by omega) (by omega) (.inl (by omega))
          have e : escUs up rs ++ (hexL (55296 + 7 * len0) up ++ (hexL (56320 + len0) up ++ [34])) = escUs up rs ++ (hexL (55296 + 7 * len0) up ++ 92 :: ((hexL (56320 + len0) up).tail ++ [34])) := rfl
          rw [e, this]
          intro h; injection h with _ h; injection h with h _; omega
      have F4 := Lib.hid f4; clear f4
      have g1 := Lib.hid (show readQ ((⟨#[34]⟩ : ByteArray) ++ b ++ t2 ++ ⟨#[34]⟩).data.toList = ([], 6, (b.size : Int) + 1) by rw [str1 hb.out ht2.out, ← hbe.out]; exact f1.out)
      have g2 := Lib.hid (show readQ ((⟨#[34]⟩ : ByteArray) ++ b ++ t2 ++ ⟨#[97]⟩ ++ t1 ++ ⟨#[34]⟩).data.toList = ([], 6, (b.size : Int) + 1) by rw [str3 hb.out ht2.out ht1.out, ← hbe.out]; exact f2.out)
      have g3 := Lib.hid (show readQ ((⟨#[34]⟩ : ByteArray) ++ b ++ t1 ++ t2 ++ ⟨#[34]⟩).data.toList = ([], 6, (b.size : Int) + 1) by rw [str2 hb.out ht1.out ht2.out, ← hbe.out]; exact f3.out)
      clear f1 f2 f3
      go_wp2_with fail
      refine (put_at A _ n c (by rw [List.length_map]; exact hnr.out.1) (by omega) _ hnr.out.2 (Below.refl _ _)).mono ?_
      rintro e w2 ⟨A2, m2, rfl, rfl, hB2, hb2⟩
      have hcv := conv_bs (P := Tryd.prog) w2 34 9 5 Tryd.underlying34 Tryd.underlying5 Tryd.underlying9 hB2 (putL (rs.map fun n : Nat => (n : Int))).length
      clear hB2
      have hq0 : decide (readQ ((⟨#[34]⟩ : ByteArray) ++ b ++ ⟨#[34]⟩).data.toList = ((⟨(putL (rs.map fun n : Nat => (n : Int))).toArray⟩ : ByteArray).data.toList, 0, 0)) = true := decide_eq_true (by rw [str0 hb.out, esc_good hok.out]; rfl)
      have HQ0 := Lib.hid hq0; clear hq0
      go_wp2_with fail
      refine (is_at HGr.out _ _ true HQ0.out (by rw [app_sz, app_sz]; show 1 + b.size + 1 ≤ _; omega) _ hb2).mono ?_
      rintro e w3 ⟨rfl, hb3⟩
      clear hcv HQ0 hb2
      go_wp2_with fail
      refine (hex_at _ (56320 + len0) (by omega) (by omega) up t1 ht1.out _).mono ?_
      rintro e w4 ⟨rfl, rfl⟩
      go_wp2_with fail
      refine (hex_at _ (55296 + 7 * len0) (by omega) (by omega) up t2 ht2.out _).mono ?_
      rintro e w4 ⟨rfl, rfl⟩
      go_wp2_with fail
      rw [show decide (55296 + (len0 : Int) * 7 % 2048 < 56320) = hiB len0 from rfl]
      refine (fault_at _ _ _ g1.out (by simp only [app_sz, hs2]; show 1 + b.size + 6 + 1 ≤ _; omega) _ (HGr.out.keep hb3 (Nat.le_refl _)) hb3).mono ?_
      rintro e w4 ⟨rfl, hb4⟩
      clear hb3
      go_wp2_with fail
      refine (hex_at _ (55296 + 7 * len0) (by omega) (by omega) up t2 ht2.out _).mono ?_
      rintro e w5 ⟨rfl, rfl⟩
      go_wp2_with fail
      refine (fault_at _ _ _ g2.out (by simp only [app_sz, hs1, hs2]; show 1 + b.size + 6 + 1 + 6 + 1 ≤ _; omega) _ (HGr.out.keep hb4 (Nat.le_refl _)) hb4).mono ?_
      rintro e w5 ⟨rfl, hb5⟩
      clear hb4
      go_wp2_with fail
      refine (hex_at _ (55296 + 7 * len0) (by omega) (by omega) up t2 ht2.out _).mono ?_
      rintro e w6 ⟨rfl, rfl⟩
      go_wp2_with fail
      refine (fault_at _ _ _ g3.out (by simp only [app_sz, hs1, hs2]; show 1 + b.size + 6 + 6 + 1 ≤ _; omega) _ (HGr.out.keep hb5 (Nat.le_refl _)) hb5).mono ?_
      rintro e w6 ⟨rfl, hb6⟩
      clear hb5
      go_wp2_with fail
      refine (hex_at _ (55296 + 7 * len0) (by omega) (by omega) up t2 ht2.out _).mono ?_
      rintro e w7 ⟨rfl, rfl⟩
      have HO6 := Lib.hid (own_keep hown.out hb6 (Nat.le_refl _))
      have hbw6 := hbw.trans (hb6.mono hbs)
      clear hb6
      have hbs6 := hbw6.size
      go_wp2_with (at_builtin; refine wpList_app1 _ rfl _ _ 32 rfl w.heap.size 3 i0 _ 1 8 Tryd.underlying32 Hi.out Hz0.out Hz1.out Hz2.out rfl (by decide) A n c (intVals rs) rfl HO6.out [.int .i64 _] _ rfl rfl (fun u hu => by simp at hu; subst hu; rfl) (by omega) (by decide) hbs6 ?_; intro A' c' w7 hown7 hc7 hb7)
      have HO7 : Hid (w7.ownsRow w.heap.size 3 1 (.slice A' (n + 1) c') (n + 1) (intVals (rs ++ [lastR len0]))) := by
        show World.ownsRow _ _ _ _ _ _ _
        rw [show intVals (rs ++ [lastR len0]) = intVals rs ++ [.int .i64 ((lastR len0 : Nat) : Int)] by simp [intVals]]
        refine cast (congrArg (fun v => w7.ownsRow w.heap.size 3 1 (.slice A' (n + 1) c') (n + 1) (intVals rs ++ [Value.int .i64 v])) ?_) hown7
        have em : (len0 : Int) * 7 % 2048 = (len0 : Int) * 7 := Int.emod_eq_of_lt (by omega) (by omega)
        unfold lastR
        omega
      clear hown7
      have hbw7 := hbw6.trans hb7
      clear hb7
      have hnr7 := Lib.hid (own_is HO7.out)
      obtain ⟨l8, hl8⟩ : ∃ l8, Hid (putL ((rs ++ [lastR len0]).map fun n : Nat => (n : Int)) = l8) := ⟨_, rfl⟩
      refine (put_atL A' _ (n + 1) c' (by rw [List.length_map]; exact hnr7.out.1) (by omega) _ hnr7.out.2 hbw7 l8 hl8.out).mono ?_
      rintro e w8 ⟨A8, m8, rfl, rfl, hB8, hb8⟩
      have hcv := conv_bs (P := Tryd.prog) w8 34 9 5 Tryd.underlying34 Tryd.underlying5 Tryd.underlying9 hB8 l8.length
      clear hB8
      go_wp2_with fail
      refine (is_at HG.out _ _ (hiB len0) (F4.out ⟨l8.toArray⟩ (by rw [← hl8.out])) (by simp only [app_sz, hs1, hs2]; show 1 + b.size + 6 + 6 + 1 ≤ _; omega) _ hb8).mono ?_
      rintro e w9 ⟨rfl, hb9⟩
      clear hcv
      go_wp2_with fail
      refine (lives_at HG.out _ hb9).mono ?_
      rintro e w10 ⟨rfl, hb10⟩
      go_wp2
      go_ret
      exact ⟨rfl, hb10⟩

end Go.Proofs.YtpchipmpgoflfaaDoor
