/- The program reads a hexadecimal text back. -/
import Derived.Test.YtijafnejdibdlaaGreatDoorHexO
import Derived.Test.YtijafnejdibdlaaGreatDoorDraw
import Derived.Lib.ConvBytes
import Derived.Lib.AtoiAllMem
import Derived.Lib.AtoiErrMem
import Derived.Lib.Walk
import Derived.Laws.Strings3
import Derived.Laws.Closers25
import Derived.Laws.Closers25b
namespace Go.Proofs.YtijafnejdibdlaaGreatDoor
open Go.RowKit
set_option maxRecDepth 100000
theorem or32 : ∀ d, 10 ≤ d → d < 16 → bits .or .u8 ((87 + d : Nat) : Int) 32 = ((87 + d : Nat) : Int)
  | 10, _, _ | 11, _, _ | 12, _, _ | 13, _, _ | 14, _, _ | 15, _, _ => by decide
  | 0, h, _ | 1, h, _ | 2, h, _ | 3, h, _ | 4, h, _ | 5, h, _ | 6, h, _ | 7, h, _ | 8, h, _ | 9, h, _ => absurd h (by omega)
  | d + 16, _, h => absurd h (by omega)
theorem lower_any (c : Int) (w : World) : Calls Tryz.prog 91 #[.int .u8 c] w fun e w' => e = .returned (.int .u8 (bits .or .u8 c 32)) ∧ w' = w := by
  go_enter Tryz.func91, Tryz.ntmps91
  go_wp2
  go_ret
  exact ⟨rfl, rfl⟩
set_option maxHeartbeats 4000000 in
theorem parse_any (v : Nat) (w : World) (hv : v < 4294967296) : Calls Tryz.prog 75 #[.string ⟨(dgs v 8).toArray⟩, .int .i64 16, .int .i64 32] w fun e w' =>
    e = .returned (.tuple #[.int .u64 v, .nilIface]) ∧ Below w.heap.size w w' := by
  obtain ⟨t, ht⟩ : ∃ t : ByteArray, (⟨(dgs v 8).toArray⟩ : ByteArray) = t := ⟨_, rfl⟩
  have hbs : t.data.toList = dgs v 8 := by rw [← ht]
  have htn : t.size = 8 := by rw [Lib.size_eq, hbs, dgs_length]
  have hemp : t.toList.isEmpty = false := by
    rw [Lib.toList_data, hbs, dgs_cons]; rfl
  have hcv := Lib.run_convert_string_bytes (P := Tryz.prog) w 9 22 5 t (u := .string) Tryz.underlying9 Tryz.underlying22 Tryz.underlying5
  have hB : ∀ j, j < t.size → (Lib.bytesWorld w 5 t).cell? ⟨w.heap.size, j, none⟩ = some (.int .u8 (t.data.toList.getD j 0).toNat) := fun j hj => Lib.bytesWorld_cell w 5 t j hj
  have hW : Hid (Below w.heap.size w (Lib.bytesWorld w 5 t)) := Lib.bytesWorld_below w 5 t
  rw [ht]
  generalize Lib.bytesWorld w 5 t = W1 at hcv hB hW
  have HB := Lib.hid hB
  clear ht hB
  go_enter Tryz.func75, Tryz.ntmps75
  go_wp2
  go_loop [12, 13, 101] (fun vu vn vi => ∃ (k : Nat) (a : Int), vu = .bool false ∧ vn = .int .u64 a ∧ vi = .int .i64 k ∧ k ≤ 8 ∧ Hid (a = ((v / 16 ^ (8 - k) : Nat) : Int)))
    (fun _ _ vi => 8 - (intOf vi).toNat)
  case atStart => exact ⟨0, 0, rfl, rfl, rfl, by omega, by show (0 : Int) = _; rw [show v / 16 ^ (8 - 0) = 0 from Nat.div_eq_of_lt hv]; rfl⟩
  case round =>
    obtain ⟨k, a, rfl, rfl, rfl, hk, Ha⟩ := hrel
    by_cases hk8 : k < 8
    · obtain ⟨d, hd⟩ : ∃ d, v / 16 ^ (8 - 1 - k) % 16 = d := ⟨_, rfl⟩
      have hd16 : d < 16 := by rw [← hd]; exact Nat.mod_lt _ (by omega)
      have hc := HB.out k (by omega)
      have hg := dgs_get v 8 k hk8
      rw [hd, ← hbs] at hg
      rw [List.getD_eq_getElem?_getD, hg, Option.getD_some, hxb_nat hd16] at hc
      have hnx := back16 v (8 - 1 - k)
      rw [hd, show 8 - 1 - k + 1 = 8 - k by omega, show 8 - 1 - k = 8 - (k + 1) by omega] at hnx
      have hlt : v / 16 ^ (8 - (k + 1)) < 4294967296 := Nat.lt_of_le_of_lt (Nat.div_le_self _ _) hv
      have ha := Ha.out
      have HN : Hid (a * 16 + (d : Int) = ((v / 16 ^ (8 - (k + 1)) : Nat) : Int)) := by show _ = _; omega
      have hs1 : a * 16 + (d : Int) < 4294967296 := by omega
      have a0 : 0 ≤ a := by omega
      have hkt : (k : Int) < (t.size : Int) := by omega
      have hkt' : k < t.size := by omega
      have icut : a < 1152921504606846976 := by omega
      clear hg hd hnx hlt ha Ha
      obtain ⟨e, he⟩ : ∃ e : Int, (d : Int) = e := ⟨_, rfl⟩
      have he16 : 0 ≤ e ∧ e < 16 := by omega
      rw [he] at HN hs1
      by_cases hten : d < 10
      · have e1 : hxd d = 48 + d := by unfold hxd; rw [if_pos hten]
        have he10 : e < 10 := by omega
        rw [e1, show ((48 + d : Nat) : Int) = 48 + e by omega] at hc
        have h3 : (48 + e) - 48 = e := by omega
        have h1 : (48 : Int) ≤ 48 + e := by omega
        have h2 : 48 + e ≤ 57 := by omega
        have h5 : ¬ 48 + e = 95 := by omega
        have h6 : ¬ (16 : Int) ≤ e := by omega
        have h7 : IntKind.u64.wrap (a * 16) = a * 16 := by rw [IntKind.wrap_u64]; omega
        have h8 : IntKind.u64.wrap (a * 16 + e) = a * 16 + e := by rw [IntKind.wrap_u64]; omega
        have h9 : ¬ a * 16 + e < a * 16 := by omega
        have h10 : ¬ 4294967295 < a * 16 + e := by omega
        clear e1 he
        go_wp2_with fail
        go_round
        case rel => exact ⟨k + 1, a * 16 + e, rfl, rfl, by go_num, by omega, HN⟩
        case measure => simp only [intOf]; omega
      · have e1 : hxd d = 87 + d := by unfold hxd; rw [if_neg hten]
        have ho := or32 d (by omega) hd16
        have he10 : 10 ≤ e := by omega
        rw [e1, show ((87 + d : Nat) : Int) = 87 + e by omega] at hc
        rw [show ((87 + d : Nat) : Int) = 87 + e by omega] at ho
        have h1 : (48 : Int) ≤ 87 + e := by omega
        have h2 : ¬ 87 + e ≤ 57 := by omega
        have h11 : (97 : Int) ≤ 87 + e := by omega
        have h12 : 87 + e ≤ 122 := by omega
        have h3 : (87 + e) - 97 = e - 10 := by omega
        have h4 : e - 10 + 10 = e := by omega
        have h5 : ¬ 87 + e = 95 := by omega
        have h6 : ¬ (16 : Int) ≤ e := by omega
        have h7 : IntKind.u64.wrap (a * 16) = a * 16 := by rw [IntKind.wrap_u64]; omega
        have h8 : IntKind.u64.wrap (a * 16 + e) = a * 16 + e := by rw [IntKind.wrap_u64]; omega
        have h9 : ¬ a * 16 + e < a * 16 := by omega
        have h10 : ¬ 4294967295 < a * 16 + e := by omega
        have hl : ∀ w : World, Calls Tryz.prog 91 #[.int .u8 (87 + e)] w fun e' w' => e' = .returned (.int .u8 (87 + e)) ∧ w' = w := fun w => by
          have := lower_any (87 + e) w
          rw [ho] at this
          exact this
        have HL := Lib.hid hl
        clear e1 he ho hl
        go_wp2_with (go_at_call 91; refine (HL.out _).mono ?_; rintro e w' ⟨rfl, rfl⟩)
        go_round
        case rel => exact ⟨k + 1, a * 16 + e, rfl, rfl, by go_num, by omega, HN⟩
        case measure => simp only [intOf]; omega
    · obtain rfl : k = 8 := by omega
      have hkt : ¬ ((8 : Nat) : Int) < (t.size : Int) := by omega
      have ha : a = (v : Int) := by rw [Ha.out, show 8 - 8 = 0 from rfl, Nat.pow_zero, Nat.div_one]
      subst ha
      go_wp2_with fail
      go_ret2
      exact ⟨rfl, hW.out⟩
theorem parseP_any (v : Nat) (w : World) (hv : v < 4294967296) : Calls Tryz.prog 59 #[.string ⟨(dgs v 8).toArray⟩, .int .i64 16, .int .i64 32] w fun e w' =>
    e = .returned (.tuple #[.int .u64 v, .nilIface]) ∧ Below w.heap.size w w' := by
  go_enter Tryz.func59, Tryz.ntmps59
  go_wp2_with fail
  refine (parse_any v _ hv).mono ?_
  rintro e w1 ⟨rfl, hb⟩
  go_wp2_with fail
  go_ret2
  exact ⟨rfl, hb⟩
theorem readHex_any (x : Nat) (w : World) (h : TabAt w) (hx : W32 x) : Calls Tryz.prog 38 #[.string (hexS x)] w fun e w' => e = .returned (.tuple #[.float .f32 (cn .f32 x), .bool true]) ∧ Below w.heap.size w w' := by
  have H := Lib.hid h
  have hlt := hx.cn_lt
  have hcc := cn_cn .f32 x
  clear h
  have hS : Hid (hexS (cn .f32 x) = hexS x) := by show _ = _; unfold hexS; rw [hcc]
  unfold hexS
  generalize cn .f32 x = v at hlt hcc hS
  have hd := run_from32
  have hw : IntKind.u32.wrap (v : Int) = v := by show (v : Int) % 4294967296 = v; omega
  go_enter Tryz.func38, Tryz.ntmps38
  go_wp2_with fail
  refine (parseP_any v _ hlt).mono ?_
  rintro e w1 ⟨rfl, hb⟩
  have H1 := Lib.hid (H.out.below hb H.out.lt)
  have HB := Lib.hid hb
  clear hb
  have hv := Lib.hid (W32.lt hlt)
  have hh := Lib.hid (show hexS v = ⟨(dgs v 8).toArray⟩ by unfold hexS; rw [hcc])
  have hne : (binOp .eql 84 .nilIface .nilIface).run Tryz.prog w1 = .ok (.bool true) w1 := by kernel_rfl
  go_wp2_with fail
  refine (hexOf_any v _ H1.out hv.out).mono ?_
  rintro e w2 ⟨rfl, hb2⟩
  have HB2 := Lib.hid (HB.out.trans (hb2.mono HB.out.size))
  clear hb2
  rw [hh.out]
  go_wp2_with fail
  go_ret2
  exact ⟨rfl, HB2.out⟩
end Go.Proofs.YtijafnejdibdlaaGreatDoor
