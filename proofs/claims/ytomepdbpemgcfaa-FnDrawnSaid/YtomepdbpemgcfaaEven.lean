/- EvenSeed: a number that can be any one between 0 and 1. -/
import Derived.Test.YtomepdbpemgcfaaLdexp
import Derived.Test.YtomepdbpemgcfaaLen32
import Derived.Test.YtomepdbpemgcfaaWait
namespace Go.Proofs.Ytomepdbpemgcfaa
open Go.RowKit Mag
set_option maxRecDepth 100000
theorem bitLen_bd : ∀ n w : Nat, n ≤ 64 → w < 2 ^ n → 0 < w → 1 ≤ Lib.bitLen w ∧ 2 ^ (Lib.bitLen w - 1) ≤ w ∧ w < 2 ^ Lib.bitLen w
  | 0, w, _, h, h0 => by simp at h; omega
  | n + 1, w, hn, h, h0 => by
    have h64 : w < 2 ^ 64 := Nat.lt_of_lt_of_le h (Nat.pow_le_pow_right (by omega) hn)
    have e := Lib.bitLen_half w (by omega) h64
    by_cases h1 : w < 2
    · obtain rfl : w = 1 := by omega
      have : Lib.bitLen 1 = 1 := by decide
      rw [this]; decide
    · obtain ⟨a, b, c⟩ := bitLen_bd n (w / 2) (by omega) (by rw [Nat.pow_succ] at h; omega) (by omega)
      rw [e]
      generalize Lib.bitLen (w / 2) = L at *
      refine ⟨by omega, ?_, ?_⟩
      · have : 1 + L - 1 = (L - 1) + 1 := by omega
        rw [this, Nat.pow_succ]; omega
      · rw [Nat.add_comm, Nat.pow_succ]; omega
/-- Leading zeros of a word that is not 0, as a natural number. -/
def lzN (w : Int) : Nat := 32 - Lib.bitLen w.toNat
theorem lz_facts {w : Int} (h0 : 0 < w) (h1 : w ≤ 4294967295) : lzW w = (lzN w : Int) ∧ lzN w ≤ 31 ∧ (∀ j, j < lzN w → w * 2 ^ j < 2147483648) ∧ 2147483648 ≤ w * 2 ^ lzN w := by
  obtain ⟨n, rfl⟩ := Int.eq_ofNat_of_zero_le (Int.le_of_lt h0)
  obtain ⟨a, b, c⟩ := bitLen_bd 32 n (by omega) (by omega) (by omega)
  have l := Lib.bitLen_le n 32 (by omega) (by omega)
  unfold lzW lzN
  rw [Int.toNat_natCast]
  generalize Lib.bitLen n = L at *
  refine ⟨by omega, by omega, ?_, ?_⟩
  · intro j hj
    have : n * 2 ^ j < 2 ^ 31 := by
      calc n * 2 ^ j < 2 ^ L * 2 ^ j := Nat.mul_lt_mul_of_pos_right c (Nat.two_pow_pos _)
        _ = 2 ^ (L + j) := (Nat.pow_add ..).symm
        _ ≤ 2 ^ 31 := Nat.pow_le_pow_right (by omega) (by omega)
    have := Int.ofNat_lt.2 this
    rw [Int.natCast_mul, Int.natCast_pow] at this
    exact this
  · have : 2 ^ 31 ≤ n * 2 ^ (32 - L) := by
      calc 2 ^ 31 = 2 ^ (L - 1) * 2 ^ (32 - L) := by rw [← Nat.pow_add]; congr 1; omega
        _ ≤ _ := Nat.mul_le_mul_right _ b
    have := Int.ofNat_le.2 this
    rw [Int.natCast_mul, Int.natCast_pow] at this
    exact this
def evX (k : Int) : Nat := floatOfInt .f64 (8388608 + k)
theorem floatOfInt64_mono {a b : Int} (h : a ≤ b) : KV .f64 (floatOfInt .f64 a) ≤ KV .f64 (floatOfInt .f64 b) := by
  have e : ∀ n : Int, KV .f64 (floatOfInt .f64 n) = srg Ieee.double n 0 := by
    intro n
    show KV .f64 (FloatKind.f64.encode (.number (n < 0) n.natAbs 0)) = _
    rw [KV_encode]
    have : sv (decide (n < 0)) n.natAbs = n := by
      unfold sv
      by_cases h : n < 0
      · simp only [h, decide_true, if_true]; omega
      · simp only [h, decide_false, Bool.false_eq_true, if_false]; omega
    rw [this]; rfl
  rw [e, e]
  exact srg_mono _ (by unfold ILe; simp; exact h)
theorem evX_bd {k : Int} (h0 : 0 ≤ k) (h1 : k < 8388608) : 1046 * Bd ≤ evX k ∧ evX k < 1047 * Bd := by
  have a := floatOfInt64_mono (show (8388608 : Int) ≤ 8388608 + k by omega)
  have b := floatOfInt64_mono (show 8388608 + k ≤ (16777215 : Int) by omega)
  have e1 : KV .f64 (floatOfInt .f64 8388608) = ((1046 * Bd : Nat) : Int) := by decide +kernel
  have e2 : KV .f64 (floatOfInt .f64 16777215) ≤ ((1047 * Bd - 1 : Nat) : Int) := by decide +kernel
  have hlt : evX k < 18446744073709551616 := by
    show Ieee.double.write (.number (8388608 + k < 0) (8388608 + k).natAbs 0) < _
    exact Ieee.Format.write_lt Ieee.double _
  have hb := Int.le_trans b e2
  rw [e1] at a
  obtain ⟨z, hz⟩ : ∃ z : Nat, KV .f64 (evX k) = z := ⟨(KV .f64 (evX k)).toNat, by have : 0 ≤ KV .f64 (evX k) := Int.le_trans (by decide) a; omega⟩
  have a' : ((1046 * Bd : Nat) : Int) ≤ (z : Int) := by rw [← hz]; exact a
  have b' : (z : Int) ≤ ((1047 * Bd - 1 : Nat) : Int) := by rw [← hz]; exact hb
  have a2 : 1046 * Bd ≤ z := Int.ofNat_le.1 a'
  have b2 : z ≤ 1047 * Bd - 1 := Int.ofNat_le.1 b'
  have := nat_of_KV hlt hz (Nat.lt_of_lt_of_le (by decide) a2)
  rw [this]
  exact ⟨a2, Nat.lt_of_le_of_lt b2 (by decide)⟩
theorem aux_up {x q z b c : Nat} (h : x < q) (hz : b ≤ z) (hc : q ≤ c + b) : x - z ≤ c := by omega
theorem aux_low2 {q x z r b : Nat} (h : q ≤ x) (hz : z ≤ r) (hr : r + b ≤ q) : b ≤ x - z := by omega
/-- What is left of it behind d halvings, d from 24 on. -/
theorem evY_rn {k : Int} {d : Nat} (h0 : 0 ≤ k) (h1 : k < 8388608) (hd0 : 24 ≤ d) (_ : d ≤ 200) : Rn .f64 (0 : Nat) (4607182418800017408 : Nat) (evX k - d * Bd) := by
  obtain ⟨a, b⟩ := evX_bd h0 h1
  have h24 : 24 * Bd ≤ d * Bd := Nat.mul_le_mul_right _ hd0
  have hle : evX k - d * Bd ≤ 4607182418800017408 := aux_up b h24 (by decide)
  have hlt : evX k - d * Bd < 2047 * Bd := Nat.lt_of_le_of_lt hle (by decide)
  have hk := KV_nat (x := evX k - d * Bd) (Nat.lt_of_le_of_lt hle (by decide))
  exact ⟨Fin_nat hlt, by rw [hk]; omega, by rw [hk]; exact Int.ofNat_le.2 hle⟩
def evI (k : Int) (i : Nat) : Nat := evX k - i * Bd
theorem evI_nan {k : Int} {i : Nat} (h0 : 0 ≤ k) (h1 : k < 8388608) (_ : i ≤ 200) : isNaNB .f64 (evI k i) = false :=
  FinK_not_nan (Fin_nat (Nat.lt_of_le_of_lt (Nat.sub_le _ _) (Nat.lt_trans (evX_bd h0 h1).2 (by decide))))
theorem evI_fits {k : Int} {d : Nat} (h0 : 0 ≤ k) (h1 : k < 8388608) (hd0 : 24 ≤ d) (hd : d ≤ 200) : fitsN (evI k d) := (evY_rn h0 h1 hd0 hd).fits (by decide +kernel)
def evenY (e : Nat) (k : Int) : Nat := narrow (evX k - (24 + e) * Bd)
/-- The seed then, and the number. -/
def evenFrom : Nat → Nat → Sd → Sd × Nat
  | 0, _, s => (nextSd s, 0)
  | f + 1, e, s => if wordOf s = 0 then evenFrom f (e + 32) (nextSd s) else (nextSd (nextSd s), evenY (e + lzN (wordOf s)) (wordOf (nextSd s) / 512))
def evenSeed (s : Sd) : Option (Sd × Nat) := if validB s then some (evenFrom 4 0 s) else none
theorem evenFrom_zero {f e : Nat} {s : Sd} (h : wordOf s = 0) : evenFrom (f + 1) e s = evenFrom f (e + 32) (nextSd s) := by rw [evenFrom, if_pos h]
theorem evenFrom_some {f e : Nat} {s : Sd} (h : ¬ wordOf s = 0) : evenFrom (f + 1) e s = (nextSd (nextSd s), evenY (e + lzN (wordOf s)) (wordOf (nextSd s) / 512)) := by rw [evenFrom, if_neg h]
theorem ev_halve {k : Int} {j d : Nat} (h0 : 0 ≤ k) (h1 : k < 8388608) (hj : j < d) (hd : d ≤ 200) : fop .quo .f64 (evX k - j * Bd) 4611686018427387904 = evX k - (j + 1) * Bd := by
  obtain ⟨a, b⟩ := evX_bd h0 h1
  have hj2 : j * Bd ≤ 200 * Bd := Nat.mul_le_mul_right _ (by omega)
  rw [hlv_word (aux_low2 a hj2 (by decide)) (Nat.lt_of_le_of_lt (Nat.sub_le _ _) (Nat.lt_trans b (by decide))), Nat.succ_mul, Nat.sub_sub]
set_option maxHeartbeats 4000000 in
theorem l03Even_any (s : Sd) (g : Nat) (w : World) (hs : s.ok) (hg : SeedAt w g s) :
    Calls Try.prog 26 #[.pointer (some ⟨g, 0, none⟩)] w fun e w' => ∃ x, e = .returned (.float .f32 x) ∧ Hid (cn .f32 x = (evenFrom 4 0 s).2) ∧ SeedAt w' g (evenFrom 4 0 s).1 ∧ w.grownBy w' (some g) := by
  have Hg := Lib.hid hg; have Hk : Hid s.ok := hs
  clear hg hs
  go_enter Try.func26, Try.ntmps26
  go_wp2
  go_loopw [3, 4] (fun e n wr => ∃ (m : Nat) (s' : Sd), m ≤ 4 ∧ n = .int .i64 m ∧ e = .int .i64 ((32 * m : Nat) : Int) ∧ Hid (evenFrom 4 0 s = evenFrom (4 - m) (32 * m) s') ∧ s'.ok ∧ SeedAt wr g s' ∧ w.grownBy wr (some g)) (fun _ n _ => 4 - (intOf n).toNat)
  case atStart => exact ⟨0, s, by omega, rfl, rfl, rfl, Hk.out, Hg.out, grown_rfl' _ _⟩
  case round =>
    obtain ⟨m, s', hm, rfl, rfl, hev, hs', hg', hgr⟩ := hrel
    have HG := Lib.hid hgr; have Hk' := Lib.hid hs'
    clear hgr hs'
    by_cases hlt : m < 4
    · have hlt' : (m : Int) < 4 := by omega
      have hwo := wordOf_ok s'
      go_wp2_with fail
      refine (specNext_any s' g _ Hk'.out hg').mono ?_
      rintro e w2 ⟨rfl, hg2, hgr2⟩
      have HG2 := Lib.hid (grown_trans' HG.out hgr2)
      have Hk2 := Lib.hid (nextSd_ok Hk'.out)
      clear hgr2 hg'
      by_cases hw0 : wordOf s' = 0
      · have hd : Hid (evenFrom 4 0 s = evenFrom (4 - (m + 1)) (32 * (m + 1)) (nextSd s')) := by
          show _ = _
          have e1 : 4 - m = (4 - (m + 1)) + 1 := by omega
          rw [hev.out, e1, evenFrom_zero hw0]
          rfl
        rw [hw0]
        clear hw0 hwo
        have Hg2 := Lib.hid hg2
        clear hg2
        go_wp2
        first
          | (go_roundw; exact ⟨⟨m + 1, nextSd s', by omega, by go_num, by go_num, hd, Hk2.out, Hg2.out, HG2.out⟩, by simp only [intOf]; omega⟩)
          | (go_roundw
             case rel => exact ⟨m + 1, nextSd s', by omega, by go_num, by go_num, hd, Hk2.out, Hg2.out, HG2.out⟩
             case measure => simp only [intOf]; omega)
      · have hd : Hid (evenFrom 4 0 s = (nextSd (nextSd s'), evenY (32 * m + lzN (wordOf s')) (wordOf (nextSd s') / 512))) := by
          show _ = _
          have e1 : 4 - m = (3 - m) + 1 := by omega
          rw [hev.out, e1, evenFrom_some hw0]
        have hpos : 0 < wordOf s' := by omega
        obtain ⟨_, l1, l2, l3⟩ := lz_facts hpos (by omega)
        have L2 := Lib.hid l2; have L3 := Lib.hid l3
        clear l2 l3
        have hwb := wordOf_ok (nextSd s')
        obtain ⟨wd, hwd⟩ : ∃ wd, wd = wordOf s' := ⟨_, rfl⟩
        rw [← hwd] at hd hw0 hpos hwo l1 L2 L3 ⊢
        clear hwd
        obtain ⟨lz, hlz⟩ : ∃ lz, lz = lzN wd := ⟨_, rfl⟩
        rw [← hlz] at hd l1 L2 L3
        clear hlz hlt hev
        have Hg2 := Lib.hid hg2
        clear hg2
        have hne : (wd == 0) = false := by simpa using hw0
        go_wp2
        clear hne
        go_loopw [3, 5] (fun e v wr => ∃ j : Nat, j ≤ lz ∧ e = .int .i64 ((32 * m + j : Nat) : Int) ∧ v = .int .u32 (wd * 2 ^ j) ∧ wr = w2.drewN 0) (fun e _ _ => 200 - (intOf e).toNat)
        case atStart => exact ⟨0, by omega, by go_num, by simp, rfl⟩
        case round =>
          obtain ⟨j, hj, rfl, rfl, rfl⟩ := hrel
          by_cases hjl : j < lz
          · have hv := L2.out j hjl
            have hv0 : 0 ≤ wd * 2 ^ j := Int.mul_nonneg (by omega) (Int.le_of_lt (two_pow_posI j))
            obtain ⟨v, hvd⟩ : ∃ v, v = wd * 2 ^ j := ⟨_, rfl⟩
            have hv2 : Hid (wd * 2 ^ (j + 1) = v * 2) := by show _ = _; rw [hvd, Int.pow_succ, Int.mul_assoc]
            rw [← hvd] at hv hv0 ⊢
            clear hvd
            go_wp2
            go_roundw
            case rel => exact ⟨j + 1, by omega, by go_num, congrArg (Value.int .u32) hv2.out.symm, trivial⟩
            case measure => simp only [intOf]; omega
          · obtain rfl : j = lz := by omega
            have hv := L3.out
            obtain ⟨v, hvd⟩ : ∃ v, v = wd * 2 ^ j := ⟨_, rfl⟩
            rw [← hvd] at hv ⊢
            clear hvd hjl
            have Hg2' := Lib.hid (Hg2.out.drewN 0)
            go_wp2_with fail
            refine (specNext_any (nextSd s') g _ Hk2.out Hg2'.out).mono ?_
            rintro e w3 ⟨rfl, hg3, hgr3⟩
            have HG3 := Lib.hid (grown_trans' (grown_mk_drewN HG2.out 0) hgr3)
            have Hg3 := Lib.hid hg3
            clear hgr3 hg3
            go_wp2
            obtain ⟨kk, hkk⟩ : ∃ kk, kk = wordOf (nextSd s') / 512 := ⟨_, rfl⟩
            have hk0 : 0 ≤ kk := by omega
            have hk1 : kk < 8388608 := by omega
            have hd' : Hid (evenFrom 4 0 s = (nextSd (nextSd s'), evenY (32 * m + j) kk)) := by show _ = _; rw [hd.out, hkk]
            clear hd
            rw [← hkk]
            clear hkk
            have hD : 24 + (32 * m + j) ≤ 200 := by omega
            go_loopw [7, 8] (fun xv n wr => ∃ i q : Nat, i ≤ 24 + (32 * m + j) ∧ n = .int .i64 i ∧ xv = .float .f64 (evI kk i) ∧ wr = w3.drewN q) (fun _ n _ => 24 + (32 * m + j) - (intOf n).toNat)
            case atStart => exact ⟨0, 0, by omega, rfl, congrArg (Value.float .f64) (by show evX kk = evI kk 0; simp [evI]), rfl⟩
            case round =>
              obtain ⟨i, q, hi, rfl, rfl, rfl⟩ := hrel
              by_cases hlt : i < 24 + (32 * m + j)
              · have hlt' : (i : Int) < 24 + ((32 * m + j : Nat) : Int) := by omega
                have t1 : True := trivial
                go_wp2_with (have := t1; clear this t1; refine wpList_fop _ rfl .quo _ _ _ _ rfl rfl .f64 _ _ rfl rfl ?_; intro r1 q1 h1)
                have e1 : r1 = evI kk (i + 1) := cn_num (h1.out.trans (ev_halve hk0 hk1 hlt hD)) (evI_nan hk0 hk1 (by omega))
                go_roundw
                case rel => exact ⟨i + 1, _, by omega, by go_num, congrArg (Value.float .f64) e1, rfl⟩
                case measure => simp only [intOf]; omega
              · obtain rfl : i = 24 + (32 * m + j) := by omega
                have hf := Lib.hid (evI_fits hk0 hk1 (by omega) hD)
                go_wp2_with fail
                refine (l01Narrow_any _ _ hf.out).mono ?_
                rintro e w4 ⟨r4, rfl, hr4, q4, rfl⟩
                go_wp2
                go_ret
                exact ⟨r4, rfl, by show _ = _; rw [hr4.out, hd'.out]; rfl, by rw [hd'.out]; exact Hg3.out.drewN _, grown_mk_drewN HG3.out _⟩
    · obtain rfl : m = 4 := by omega
      go_wp2_with fail
      refine (specNext_any s' g _ Hk'.out hg').mono ?_
      rintro e w2 ⟨rfl, hg2, hgr2⟩
      have HG2 := Lib.hid (grown_trans' HG.out hgr2)
      have Hg2 := Lib.hid hg2
      clear hgr2 hg2 hg'
      go_wp2
      go_ret
      exact ⟨0, rfl, by show _ = _; rw [hev.out]; exact cn_of_not (zero_not_nan .f32), by rw [hev.out]; exact Hg2.out, HG2.out⟩
set_option maxHeartbeats 1000000 in
theorem specEven_any : FnS_SFB 8 evenSeed := by
  intro k0 a0 b0 w hs
  have hz0 : ((w.alloc (.cells #[.int .i64 k0, .int .u64 a0, .int .u64 b0] 26)).alloc (.cells #[.int .i64 0, .int .u64 0, .int .u64 0] 26)).heap.size = w.heap.size + 2 := by rw [size_alloc', size_alloc']
  have hg : SeedAt ((w.alloc (.cells #[.int .i64 k0, .int .u64 a0, .int .u64 b0] 26)).alloc (.cells #[.int .i64 0, .int .u64 0, .int .u64 0] 26)) w.heap.size ⟨k0, a0, b0⟩ := (SeedAt.new w k0 a0 b0).alloc _
  have hz : SeedAt ((w.alloc (.cells #[.int .i64 k0, .int .u64 a0, .int .u64 b0] 26)).alloc (.cells #[.int .i64 0, .int .u64 0, .int .u64 0] 26)) (w.heap.size + 1) ⟨0, 0, 0⟩ := SeedAt.new1 w _ 0 0 0
  have hBl : Below w.heap.size w ((w.alloc (.cells #[.int .i64 k0, .int .u64 a0, .int .u64 b0] 26)).alloc (.cells #[.int .i64 0, .int .u64 0, .int .u64 0] 26)) := ((Below.refl _ _).alloc (Nat.le_refl _) _).alloc (by rw [size_alloc']; omega) _
  go_enter Try.func8, Try.ntmps8
  go_wp2_with fail
  refine (specIs_any ⟨k0, a0, b0⟩ _ _ hs hg).mono ?_
  rintro e w1 ⟨rfl, rfl⟩
  generalize (w.alloc (.cells #[.int .i64 k0, .int .u64 a0, .int .u64 b0] 26)).alloc (.cells #[.int .i64 0, .int .u64 0, .int .u64 0] 26) = w1 at hz0 hg hz hBl ⊢
  have HB := Lib.hid hBl; have Hz := Lib.hid hz; have Hg := Lib.hid hg; have Hk : Hid (Sd.ok ⟨k0, a0, b0⟩) := hs
  clear hBl hz hg hs hz0
  have u0 := Hz.out.c0
  have u1 := Hz.out.c1
  have u2 := Hz.out.c2
  have v0 := Hz.out.fz 0
  have v1 := Hz.out.fz 1
  have v2 := Hz.out.fz 2
  simp only at u0 u1 u2
  cases hv : validB ⟨k0, a0, b0⟩ with
  | false =>
    have Hn : Hid (evenSeed ⟨k0, a0, b0⟩ = none) := by show _ = _; simp [evenSeed, hv]
    go_wp2
    (try simp only [Exit.inBlock, Exit.then])
    refine bodyPost_ret (results_s3 rfl _ rfl (Hz.out.set3 0 0 0)) rfl ?_
    exact gaveSFB_none Hn.out (below_set3 HB.out (by omega) _ _ _)
  | true =>
    have Hr : Hid (evenSeed ⟨k0, a0, b0⟩ = some (evenFrom 4 0 ⟨k0, a0, b0⟩)) := by show _ = _; simp [evenSeed, hv]
    clear hv u0 u1 u2 v0 v1 v2
    go_wp2_with fail
    refine (l03Even_any ⟨k0, a0, b0⟩ _ _ Hk.out Hg.out).mono ?_
    rintro e w3 ⟨x, rfl, hx, hg3, hgr⟩
    have Hz3 := Lib.hid (Hz.out.grown hgr (by simp))
    have HB3 := Lib.hid (HB.out.grown hgr HB.out.size (fun _ h => by cases h; exact Nat.le_refl _))
    clear hgr
    obtain ⟨r, hrr⟩ : ∃ r, r = evenFrom 4 0 ⟨k0, a0, b0⟩ := ⟨_, rfl⟩
    rw [← hrr] at Hr hx hg3
    clear hrr
    obtain ⟨⟨k1, a1, b1⟩, y⟩ := r
    have Hg3 := Lib.hid hg3
    clear hg3
    have c0 := Hg3.out.c0
    have c1 := Hg3.out.c1
    have c2 := Hg3.out.c2
    have u0 := Hz3.out.c0
    have u1 := Hz3.out.c1
    have u2 := Hz3.out.c2
    have v0 := Hz3.out.fz 0
    have v1 := Hz3.out.fz 1
    have v2 := Hz3.out.fz 2
    simp only at c0 c1 c2 u0 u1 u2
    go_wp2
    (try simp only [Exit.inBlock, Exit.then])
    refine bodyPost_ret (results_s3 (s := ⟨k1, a1, b1⟩) (g := w.heap.size + 1) rfl _ rfl (by exact Hz3.out.set3 k1 a1 b1)) rfl ?_
    exact gaveSFB_some (s := ⟨k1, a1, b1⟩) Hr.out hx.out (below_set3 HB3.out (by omega) _ _ _)
end Go.Proofs.Ytomepdbpemgcfaa
