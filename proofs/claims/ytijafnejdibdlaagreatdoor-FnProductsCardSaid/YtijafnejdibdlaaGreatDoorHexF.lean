/- strconv.FormatInt at base 16. -/
import Derived.Test.YtijafnejdibdlaaGreatDoorHexP
import Derived.Test.YtijafnejdibdlaaGreatDoorSrc
import Derived.Test.YtijafnejdibdlaaGreatDoorSeed
import Derived.Laws.IdiomStrings
import Derived.Laws.Slices
namespace Go.Proofs.YtijafnejdibdlaaGreatDoor
open Go.RowKit
set_option maxRecDepth 100000
/-- The cell of the library's table that tells how often 2 divides 16. -/
def TabAt (w : World) : Prop := w.cell? ⟨6, 15, none⟩ = some (.int .u8 4)
theorem tz64_any (w : World) (h : TabAt w) : Calls Tryz.prog 112 #[.int .u64 16] w fun e w' => e = .returned (.int .i64 4) ∧ w' = w := by
  unfold TabAt at h
  have hb : IntKind.u64.wrap (bits .and .u64 16 (IntKind.u64.wrap (-16)) * 285870213051353865) / 288230376151711744 = 15 := by decide
  go_enter Tryz.func112, Tryz.ntmps112
  go_wp2
  go_ret
  exact ⟨rfl, rfl⟩
theorem tz_any (w : World) (h : TabAt w) : Calls Tryz.prog 101 #[.int .u64 16] w fun e w' => e = .returned (.int .i64 4) ∧ w' = w := by
  have H := Lib.hid h
  clear h
  go_enter Tryz.func101, Tryz.ntmps101
  go_wp2_with (go_at_call 112; refine (tz64_any _ H.out).mono ?_; rintro e w1 ⟨rfl, rfl⟩)
  go_ret
  exact ⟨rfl, rfl⟩
theorem pow2_any (w : World) : Calls Tryz.prog 100 #[.int .i64 16] w fun e w' => e = .returned (.bool true) ∧ w' = w := by
  go_enter Tryz.func100, Tryz.ntmps100
  go_wp2
  go_ret
  exact ⟨rfl, rfl⟩
def bv (b : UInt8) : Value := .int .u8 (b.toNat : Int)
/-- The row of 65 bytes, the last j of which are digits. -/
def rowH (n j : Nat) : Array Value := (List.replicate (65 - j) (Value.int .u8 0) ++ (dgs n j).map bv).toArray
theorem set_lead (z x : Value) (l : List Value) : ∀ k, (List.replicate (k + 1) z ++ l).set k x = List.replicate k z ++ x :: l
  | 0 => rfl
  | k + 1 => by
    rw [List.replicate_succ, List.cons_append, List.set_cons_succ, set_lead z x l k]
    rfl
theorem rowH_set (n : Nat) {j p : Nat} (hp : p + j = 64) : (rowH n j).setIfInBounds p (bv (hxb (n / 16 ^ j % 16))) = rowH n (j + 1) := by
  unfold rowH
  rw [List.setIfInBounds_toArray, show 65 - j = p + 1 by omega, set_lead, show 65 - (j + 1) = p by omega, dgs_cons, List.map_cons]
theorem rowH_zero (n : Nat) {j p : Nat} (hp : p + j < 65) : (rowH n j)[p]? = some (.int .u8 0) := by
  unfold rowH
  rw [List.getElem?_toArray, List.getElem?_append_left (by rw [List.length_replicate]; omega), List.getElem?_replicate, if_pos (by omega)]
theorem rowH_get (n : Nat) {j t : Nat} (hj : j ≤ 65) (ht : t < j) : (rowH n j)[65 - j + t]? = some (bv ((dgs n j)[t]'(by rw [dgs_length]; exact ht))) := by
  unfold rowH
  rw [List.getElem?_toArray, List.getElem?_append_right (by rw [List.length_replicate]; omega), List.length_replicate, List.getElem?_map, Nat.add_sub_cancel_left, List.getElem?_eq_getElem (by rw [dgs_length]; exact ht)]
  rfl
def RowAt (w : World) (g : Nat) (row : Array Value) : Prop := w.heap[g]? = some (.cells row 130 (0, 0))
theorem RowAt.set {w : World} {g : Nat} {row : Array Value} (h : RowAt w g row) (i : Nat) (u : Value) : RowAt (w.setCell ⟨g, i, none⟩ u) g (row.setIfInBounds i u) := by
  unfold RowAt at h ⊢
  simp [World.setCell, Array.getElem?_modify, h]
theorem RowAt.fz {w : World} {g : Nat} {row : Array Value} (h : RowAt w g row) (i : Nat) : w.frozen? ⟨g, i, none⟩ = false := by
  unfold RowAt at h
  simp [World.frozen?, h]
theorem RowAt.cell {w : World} {g : Nat} {row : Array Value} (h : RowAt w g row) (i : Nat) : w.cell? ⟨g, i, none⟩ = row[i]? := cell_of_row w g i _ 130 (0, 0) h
theorem and15 (x : Nat) (h : x < 4294967296) : bits .and .u64 (x : Int) 15 = ((x % 16 : Nat) : Int) := by
  have e := bits_and_u64_nat x 15 (by omega) (by omega)
  rw [show ((15 : Nat) : Int) = 15 from rfl] at e
  rw [e, show (15 : Nat) = 2 ^ 4 - 1 from rfl, Nat.and_two_pow_sub_one_eq_mod]
def digB : ByteArray := ⟨#[48, 49, 50, 51, 52, 53, 54, 55, 56, 57, 97, 98, 99, 100, 101, 102, 103, 104, 105, 106, 107, 108, 109, 110, 111, 112, 113, 114, 115, 116, 117, 118, 119, 120, 121, 122]⟩
theorem digB_at : ∀ d, d < 16 → ∀ h : d < digB.size, digB[d]'h = hxb d
  | 0, _, _ | 1, _, _ | 2, _, _ | 3, _, _ | 4, _, _ | 5, _, _ | 6, _, _ | 7, _, _ | 8, _, _ | 9, _, _ | 10, _, _ | 11, _, _ | 12, _, _ | 13, _, _ | 14, _, _ | 15, _, _ => rfl
  | d + 16, h, _ => absurd h (by omega)
theorem formatBits_any (n : Nat) (w : World) (h : TabAt w) (hn : n < 4294967296) : Calls Tryz.prog 82 #[.slice none 0 0, .int .u64 n, .int .i64 16, .bool false, .bool false] w fun e w' =>
    ∃ m, e = .returned (.tuple #[.slice none 0 0, .string ⟨(dgs n m).toArray⟩]) ∧ (1 ≤ m ∧ m ≤ 8) ∧ n < 16 ^ m ∧ Below w.heap.size w w' := by
  have H := Lib.hid h
  clear h
  have H1 := Lib.hid (show TabAt (w.alloc (.cells (rowH n 0) 130)) from (World.cell?_alloc_lt w _ _ (World.block_lt_of_cell? _ _ H.out)).trans H.out)
  have HR := Lib.hid (show RowAt (w.alloc (.cells (rowH n 0) 130)) w.heap.size (rowH n 0) from heap_alloc_new w _)
  have HB : Hid (Below w.heap.size w (w.alloc (.cells (rowH n 0) 130))) := (Below.refl _ _).alloc (Nat.le_refl _) _
  go_enter Tryz.func82, Tryz.ntmps82
  go_wp2_with (go_at_call 100; refine (pow2_any _).mono ?_; rintro e w1 ⟨rfl, rfl⟩)
  change Calls _ _ _ (w.alloc (.cells (rowH n 0) 130)) _
  generalize w.alloc (.cells (rowH n 0) 130) = w1 at H1 HR HB
  refine (tz_any _ H1.out).mono ?_
  rintro e w2 ⟨rfl, rfl⟩
  obtain ⟨g, hg⟩ : ∃ g, w.heap.size = g := ⟨_, rfl⟩
  rw [hg] at HR HB ⊢
  have hgw : g < w2.heap.size := (Array.getElem?_eq_some_iff.1 HR.out).1
  go_wp2_with fail
  go_loopw [1, 13] (fun u i wr => ∃ j p : Nat, j ≤ 7 ∧ p + j = 64 ∧ u = .int .u64 (n / 16 ^ j : Nat) ∧ i = .int .i64 ((p + 1 : Nat) : Int) ∧ Hid (RowAt wr g (rowH n j)) ∧ Hid (Below g w wr)) (fun u _ _ => (intOf u).toNat)
  case atStart => exact ⟨0, 64, by omega, by omega, by rw [Nat.pow_zero, Nat.div_one], rfl, HR, HB⟩
  case round =>
    clear HR HB hgw
    obtain ⟨j, p, hj, hp, rfl, rfl, HR, HB⟩ := hrel
    have Hs := step16 n j
    have hr := and15 (n / 16 ^ j) (Nat.lt_of_le_of_lt (Nat.div_le_self _ _) hn)
    have HP := Lib.hid (rowH_set n (j := j) (p := p) hp)
    obtain ⟨u, hu⟩ : ∃ u, n / 16 ^ j = u := ⟨_, rfl⟩
    rw [hu] at Hs hr HP ⊢
    have hpp : ((p + 1 : Nat) : Int) - 1 = (p : Int) := by omega
    have hd : u % 16 < 16 := Nat.mod_lt _ (by omega)
    obtain ⟨d, hde⟩ : ∃ d, u % 16 = d := ⟨_, rfl⟩
    rw [hde] at hr hd HP
    have hdg := digB_at d hd (Nat.lt_of_lt_of_le hd (by decide))
    unfold digB at hdg
    have hc := HR.out.cell p
    rw [rowH_zero n (by omega)] at hc
    have hf := HR.out.fz p
    have hp65 : (p : Int) < 65 := by omega
    have HR2 : Hid (RowAt (wr.setCell ⟨g, p, none⟩ (.int .u8 ((hxb d).toNat : Int))) g (rowH n (j + 1))) := by
      have := HR.out.set p (bv (hxb d))
      rw [HP.out] at this
      exact this
    have HB2 : Hid (Below g w (wr.setCell ⟨g, p, none⟩ (.int .u8 ((hxb d).toNat : Int)))) := HB.out.setCell (p := ⟨g, p, none⟩) (Nat.le_refl _) _
    by_cases hge : 16 ≤ u
    · have hge' : (16 : Int) ≤ (u : Int) := by omega
      have hj6 : j ≤ 6 := by
        by_cases h7 : j = 7
        · exfalso
          subst h7
          have : n / 16 ^ 7 < 16 := Nat.div_lt_of_lt_mul (by omega)
          omega
        · omega
      obtain ⟨p', hp'⟩ : ∃ p', p = p' + 1 := ⟨p - 1, by omega⟩
      have Hp := Lib.hid hp'
      clear hp'
      go_wp2_with fail
      go_roundw
      case rel => exact ⟨j + 1, p', by omega, by have := Hp.out; omega, by rw [← Hs]; rfl, by rw [← Hp.out], HR2, HB2⟩
      case measure => simp only [intOf]; omega
    · have hge' : ¬ (16 : Int) ≤ (u : Int) := by omega
      have hud : u = d := by omega
      have Hu := Lib.hid hu
      subst hud
      have hal : Tryz.prog.arrayLen 130 = 65 := by simp [Program.arrayLen, Tryz.underlying130]
      have hsl : ∀ W, (Instr.sliceAt 130 (.pointer (some ⟨g, 0, none⟩)) (some (.int .i64 (p : Int))) none none).run Tryz.prog W = .ok (.slice (some ⟨g, p, none⟩) (j + 1) (j + 1)) W := fun W => by
        rw [run_sliceAt_array_l W 130 ⟨g, 0, none⟩ (by simp [Program.arrayLen, Program.elem, Tryz.underlying130]) .i64 (p : Int) (by omega) (by rw [hal]; omega)]
        rw [hal]
        go_simp
        omega
      have hl := dgs_length n (j + 1)
      have hcv : (convert 22 9 (.slice (some ⟨g, p, none⟩) (j + 1) (j + 1))).run Tryz.prog (wr.setCell ⟨g, p, none⟩ (.int .u8 ((hxb u).toNat : Int))) = .ok (.string ⟨(dgs n (j + 1)).toArray⟩) (wr.setCell ⟨g, p, none⟩ (.int .u8 ((hxb u).toNat : Int))) := by
        have h := run_convert_bytes_back (P := Tryz.prog) (wr.setCell ⟨g, p, none⟩ (.int .u8 ((hxb u).toNat : Int))) 22 9 5 ⟨g, p, none⟩ (j + 1) (dgs n (j + 1)) Tryz.underlying22 Tryz.underlying5 Tryz.underlying9 (fun t ht => by
          rw [hl] at ht
          rw [Addr.add_lit, HR2.out.cell, show p + t = 65 - (j + 1) + t by omega, rowH_get n (by omega) ht]
          rfl)
        rw [hl] at h
        exact h
      have hlt : n < 16 ^ (j + 1) := by
        rw [Nat.pow_succ]
        have h16 : u < 16 := by omega
        rw [← Hu.out] at h16
        exact (Nat.div_lt_iff_lt_mul (Nat.pow_pos (by omega))).1 h16 |> fun h => by rw [Nat.mul_comm]; exact h
      clear hal hl
      go_wp2_with fail
      go_ret2
      exact ⟨j + 1, rfl, by omega, hlt, HB2.out⟩
end Go.Proofs.YtijafnejdibdlaaGreatDoor
