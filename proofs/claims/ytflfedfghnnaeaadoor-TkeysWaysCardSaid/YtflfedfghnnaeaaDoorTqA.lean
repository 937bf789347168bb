/- Walks over package tquotes: plain, wrong, take, itself, end; no statement of the seat is proved here. -/
import Derived.Test.YtflfedfghnnaeaaDoorTqP
import Derived.Test.YtflfedfghnnaeaaDoorLat
import Derived.Test.YtflfedfghnnaeaaDoorApp2
namespace Go.Proofs.YtflfedfghnnaeaaDoor
open Go.RowKit

/-- What the walks lean on of the package-level variables: the short escapes' table. -/
structure Glob (w : World) : Prop where
  shorts : ∀ i v, (#[98, 8, 116, 9, 110, 10, 102, 12, 114, 13, 34, 34, 92, 92] : Array Int)[i]? = some v → w.cell? ⟨0, i, none⟩ = some (.int .u8 v)
theorem Glob.keep {B : Nat} {w w' : World} (h : Glob w) (hb : Below B w w') (hB : w.heap.size ≤ B) : Glob w' :=
  ⟨fun i v hv => cell_keep (h.shorts i v hv) hb hB⟩

/-- The reader in block R: the text, the place, the mark, what has been told; apart from the blocks Pr. -/
def RI (w : World) (R : Nat) (s : ByteArray) (i : Nat) (q : Nat) (out : List UInt8) (Pr : Nat → Prop) : Prop :=
  ∃ A n c, w.heap[R]? = some (.cells #[.string s, .int .i64 (i : Int), .int .u8 (q : Int), .slice A n c] 76 (0, 0)) ∧ OwnB w (R + 1) A n c out ∧ ∀ k, Pr k → k ≠ R ∧ k < w.heap.size ∧ (Value.slice A n c).ownBlock ≠ some k
theorem RI.keep {w w' : World} {R : Nat} {s : ByteArray} {i q : Nat} {out : List UInt8} {Pr : Nat → Prop} (h : RI w R s i q out Pr) {B : Nat} (hb : Below B w w') (hB : w.heap.size ≤ B) : RI w' R s i q out Pr := by
  obtain ⟨A, n, c, h1, h2, h3⟩ := h
  exact ⟨A, n, c, blk_later h1 hb (Nat.lt_of_lt_of_le (blk_lt h1) hB), h2.keep hb hB, fun k hk => ⟨(h3 k hk).1, Nat.lt_of_lt_of_le (h3 k hk).2.1 hb.size, (h3 k hk).2.2⟩⟩
theorem RI.lt {w : World} {R : Nat} {s : ByteArray} {i q : Nat} {out : List UInt8} {Pr : Nat → Prop} (h : RI w R s i q out Pr) : R < w.heap.size := by
  obtain ⟨A, n, c, h1, _⟩ := h
  exact blk_lt h1
theorem RI.less {w : World} {R : Nat} {s : ByteArray} {i q : Nat} {out : List UInt8} {Pr Pr' : Nat → Prop} (h : RI w R s i q out Pr) (hp : ∀ k, Pr' k → Pr k) : RI w R s i q out Pr' := by
  obtain ⟨A, n, c, h1, h2, h3⟩ := h
  exact ⟨A, n, c, h1, h2, fun k hk => h3 k (hp k hk)⟩
/-- A new block is apart from the reader. -/
theorem RI.new {w : World} {R : Nat} {s : ByteArray} {i q : Nat} {out : List UInt8} {Pr : Nat → Prop} (h : RI w R s i q out Pr) (o : Obj) : RI (w.alloc o) R s i q out (fun k => k = w.heap.size ∨ Pr k) := by
  obtain ⟨A, n, c, h1, h2, h3⟩ := h
  refine ⟨A, n, c, blk_later h1 (below_new1 w o) (blk_lt h1), h2.keep (below_new1 w o) (Nat.le_refl _), fun k hk => ?_⟩
  rcases hk with rfl | hk
  · have := blk_lt h1
    exact ⟨by omega, by simp, fun e => by have := own_lt h2 _ e; omega⟩
  · exact ⟨(h3 k hk).1, by have := (h3 k hk).2.1; simp; omega, (h3 k hk).2.2⟩
theorem later_cell {w : World} {b : Nat} {cs : Array Value} {t : TypeId} {fz : Nat × Nat} (h : w.heap[b]? = some (.cells cs t fz)) (i : Nat) (n : Later w) : n.at_.cell? ⟨b, i, none⟩ = cs[i]? :=
  blk_cell (blk_later h n.below (blk_lt h)) i
theorem u8_byte (c : UInt8) : ((c.toNat : Int) : Int) = ((c.toNat : Nat) : Int) := rfl

theorem plain_any (c : Nat) (hc : c < 256) (w : World) : Calls Tryd.prog 34 #[.int .u8 (c : Int)] w fun e w' => e = .returned (.bool (plainB c)) ∧ w = w' := by
  by_cases h9 : c = 9
  · subst h9
    go_enter Tryd.func34, Tryd.ntmps34
    go_wp2
    go_ret
    exact ⟨rfl, rfl⟩
  have b9 : ((c : Int) == 9) = false := by simp; omega
  by_cases h32 : c < 32
  · have b32 : decide ((32 : Int) ≤ (c : Int)) = false := by simp; omega
    have hp : plainB c = false := by simp [plainB]; omega
    have HP := Lib.hid hp; clear hp
    clear h9
    go_enter Tryd.func34, Tryd.ntmps34
    go_wp2
    go_ret
    exact ⟨by rw [HP.out]; rfl, rfl⟩
  have b32 : decide ((32 : Int) ≤ (c : Int)) = true := by simp; omega
  by_cases h127 : c = 127
  · subst h127
    go_enter Tryd.func34, Tryd.ntmps34
    go_wp2
    go_ret
    exact ⟨rfl, rfl⟩
  · have b127 : ((c : Int) != 127) = true := by simp; omega
    have hp : plainB c = true := by simp [plainB]; omega
    have HP := Lib.hid hp; clear hp
    clear h9 h127 h32
    go_enter Tryd.func34, Tryd.ntmps34
    go_wp2
    go_ret
    exact ⟨by rw [HP.out]; rfl, rfl⟩

theorem wrong_any (k : Int) (w : World) : Calls Tryd.prog 30 #[.int .i64 k] w fun e w' => e = .returned (.agg #[.int .i64 3, .int .i64 k]) ∧ Below w.heap.size w w' := by
  go_enter Tryd.func30, Tryd.ntmps30
  go_wp2
  exact bodyPost_ret (v := .agg #[.int .i64 3, .int .i64 k]) (by simp [results, Tryd.results30, go_sem]) rfl ⟨rfl, below_new1 _ _⟩

theorem byte_info : (Tryd.prog.info? 5).map (fun i => (i.zero, i.size, i.bytes)) = some (some (.int .u8 0), 1, 1) := by kernel_rfl
theorem four1 {w : World} {b : Nat} {u0 u1 u2 u3 v : Value} {t : TypeId} (h : w.heap[b]? = some (.cells #[u0, u1, u2, u3] t (0, 0))) : (w.setCell ⟨b, 1, none⟩ v).heap[b]? = some (.cells #[u0, v, u2, u3] t (0, 0)) := by
  simp [World.setCell, Array.getElem?_modify, h]
theorem four3 {w : World} {b : Nat} {u0 u1 u2 u3 v : Value} {t : TypeId} (h : w.heap[b]? = some (.cells #[u0, u1, u2, u3] t (0, 0))) : (w.setCell ⟨b, 3, none⟩ v).heap[b]? = some (.cells #[u0, u1, u2, v] t (0, 0)) := by
  simp [World.setCell, Array.getElem?_modify, h]
set_option maxRecDepth 100000 in
set_option maxHeartbeats 1000000 in
theorem take_any (R : Nat) (s : ByteArray) (i q : Nat) (out : List UInt8) (Pr : Nat → Prop) (many : Nat) (B : Option Addr) (m cB : Nat) (t : List UInt8) (hm : m = t.length) (w : World) (hR : RI w R s i q out Pr) (hT : BS w w.heap.size B t) (hi : i ≤ 1073741824) (hmany : many ≤ 1073741824) (ho : out.length ≤ 1073741824) (ht : t.length ≤ 1073741824) (hdis : ∀ a, B = some a → 0 < t.length → a.block ≠ R) :
    Calls Tryd.prog 78 #[.pointer (some ⟨R, 0, none⟩), .int .i64 (many : Int), .slice B m cB] w fun e w' => e = .returned (.tuple #[]) ∧ RI w' R s (i + many) q (out ++ t) Pr ∧ Below R w w' ∧ Prot Pr w w' := by
  subst hm
  obtain ⟨A, n, c, h1, hown, hP⟩ := hR
  have hn := hown.len
  obtain ⟨i0, hi0, hz0, hz1, hz2⟩ := info_parts byte_info
  have hlt := blk_lt h1
  have c1 : w.cell? ⟨R, 1, none⟩ = some (.int .i64 (i : Int)) := blk_cell h1 1
  have g1 := blk_frozen h1 1
  have h2 := four1 (v := .int .i64 ((i : Int) + (many : Int))) h1
  have hown2 := own_set hown (p := ⟨R, 1, none⟩) (Nat.lt_succ_self R) (.int .i64 ((i : Int) + (many : Int)))
  have hT2 := hT.set_ (p := ⟨R, 1, none⟩) hdis (.int .i64 ((i : Int) + (many : Int)))
  have hbw := below_set w (p := ⟨R, 1, none⟩) (Nat.le_refl R) (.int .i64 ((i : Int) + (many : Int)))
  have hpw := Prot.set_ (Pr := Pr) w (p := ⟨R, 1, none⟩) (fun k hk => (hP k hk).1) (.int .i64 ((i : Int) + (many : Int)))
  have hsz : (w.setCell ⟨R, 1, none⟩ (.int .i64 ((i : Int) + (many : Int)))).heap.size = w.heap.size := by simp
  have c3 : w.cell? ⟨R, 3, none⟩ = some (.slice A n c) := blk_cell h1 3
  have g3 := blk_frozen h1 3
  have H2 := Lib.hid h2; clear h1 h2 hown hT hdis
  have HSZ := Lib.hid hsz; clear hsz
  have HP := Lib.hid hP; clear hP
  have HPW := Lib.hid hpw; clear hpw
  have HO := Lib.hid hown2; clear hown2
  have HT := Lib.hid hT2; clear hT2
  have HN := Lib.hid hn; clear hn
  have hn2 : n ≤ 1073741824 := by rw [HN.out]; exact ho
  have Hi0 := Lib.hid hi0; have Hz0 := Lib.hid hz0; have Hz1 := Lib.hid hz1; have Hz2 := Lib.hid hz2
  clear hi0 hz0 hz1 hz2
  go_enter Tryd.func78, Tryd.ntmps78
  go_wp2_with (at_builtin; refine wpList_append_bs_at _ rfl _ _ 40 rfl (R + 1) 5 i0 _ Tryd.underlying40 Hi0.out Hz0.out Hz1.out Hz2.out rfl (.slice A n c) n (byteVals out) rfl HO.out _ B t.length t rfl cB rfl HT.out (by omega) (by simp; omega) ?_; intro A' c' w2 hown' hle hgrow hlies; have h3 : w2.heap[R]? = _ := (hgrow.block R (by simpa using hlt) (fun e => (by have := own_ge HO.out R e.symm; omega))).trans H2.out; have g3' := blk_frozen h3 3; have k3 : w2.cell? ⟨R, 3, none⟩ = some (.slice A n c) := blk_cell h3 3)
  have hb2 := below_grown hgrow (fun k hk => Nat.le_of_lt (own_ge HO.out k hk)) hbw (by simp; omega)
  have hp2 := HPW.out.trans (Prot.grown hgrow fun k hk => ⟨by rw [HSZ.out]; exact (HP.out k hk).2.1, (HP.out k hk).2.2⟩)
  have hP' : ∀ k, Pr k → k ≠ R ∧ k < w2.heap.size ∧ (Value.slice A' (n + t.length) c').ownBlock ≠ some k := fun k hk => by
    obtain ⟨p1, p2, p3⟩ := HP.out k hk
    refine ⟨p1, by have := hgrow.size; rw [HSZ.out] at this; omega, fun e => ?_⟩
    rcases hlies with h | h
    · exact p3 (h.symm.trans e)
    · rw [h, HSZ.out] at e; injection e; omega
  clear hgrow c1 g1 c3 g3 hlies
  have HO2 := Lib.hid hown'; clear hown'
  have H3 := Lib.hid h3; clear h3
  go_end0
  refine ⟨rfl, ⟨A', n + t.length, c', ?_, ?_, ?_⟩, hb2.setCell (p := ⟨R, 3, none⟩) (Nat.le_refl R) _, hp2.trans (Prot.set_ _ (fun k hk => (HP.out k hk).1) _)⟩
  · have := four3 (v := .slice A' (n + t.length) c') H3.out
    rw [this]
    simp
  · have := own_set HO2.out (p := ⟨R, 3, none⟩) (Nat.lt_succ_self R) (.slice A' (n + t.length) c')
    rw [← byteVals_app] at this
    exact this
  · intro k hk
    have := hP' k hk
    exact ⟨this.1, by simpa using this.2.1, this.2.2⟩

end Go.Proofs.YtflfedfghnnaeaaDoor
