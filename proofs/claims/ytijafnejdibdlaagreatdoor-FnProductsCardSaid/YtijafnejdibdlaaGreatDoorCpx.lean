/- Products, powers and quotients of complex numbers whose parts are whole numbers. -/
import Derived.Test.YtijafnejdibdlaaGreatDoorWholeQ
import Derived.Test.YtijafnejdibdlaaGreatDoorNums
namespace Go.Proofs.YtijafnejdibdlaaGreatDoor
open Go.RowKit Mag
set_option maxRecDepth 100000
attribute [local go_sem] run_negF
theorem mul_bound {a c : Int} {m n : Nat} (h1 : a.natAbs ≤ m) (h2 : c.natAbs ≤ n) : (a * c).natAbs ≤ m * n := by
  rw [Int.natAbs_mul]; exact Nat.mul_le_mul h1 h2
theorem sm64 : smK .f64 = 9007199254740992 := rfl
theorem sm32 : smK .f32 = 16777216 := rfl
set_option maxHeartbeats 1000000 in
theorem times_v (x1 x2 y1 y2 : Nat) (a b c d : Int) (hx1 : Vl .f32 x1 a) (hx2 : Vl .f32 x2 b) (hy1 : Vl .f32 y1 c) (hy2 : Vl .f32 y2 d) (ha : a.natAbs ≤ 80000) (hb : b.natAbs ≤ 80000) (hc : c.natAbs ≤ 80000) (hd : d.natAbs ≤ 80000) (w : World) :
    Calls Tryz.prog 29 #[.complex .f32 x1 x2, .complex .f32 y1 y2] w fun e w' => ∃ r s, e = .returned (.tuple #[.float .f64 r, .float .f64 s]) ∧ Hid (Vl .f64 r (a * c - b * d)) ∧ Hid (Vl .f64 s (a * d + b * c)) ∧ ∃ q, w' = w.drewN q := by
  have hcv := run_widen_num (P := Tryz.prog) 28 46 rfl Tryz.underlying46
  have c1 := fun w => hcv w x1 (FinK_not_nan hx1.1)
  have c2 := fun w => hcv w x2 (FinK_not_nan hx2.1)
  have c3 := fun w => hcv w y1 (FinK_not_nan hy1.1)
  have c4 := fun w => hcv w y2 (FinK_not_nan hy2.1)
  clear hcv
  have w1 := hx1.widen (by rw [sm64]; omega)
  have w2 := hx2.widen (by rw [sm64]; omega)
  have w3 := hy1.widen (by rw [sm64]; omega)
  have w4 := hy2.widen (by rw [sm64]; omega)
  have b1 := mul_bound ha hc
  have b2 := mul_bound hb hd
  have b3 := mul_bound ha hd
  have b4 := mul_bound hb hc
  have m1 := Lib.hid (w1.mul w3 (by rw [sm64]; omega))
  have m2 := Lib.hid (w2.mul w4 (by rw [sm64]; omega))
  have m3 := Lib.hid (w1.mul w4 (by rw [sm64]; omega))
  have m4 := Lib.hid (w2.mul w3 (by rw [sm64]; omega))
  have s1 := Lib.hid (m1.out.sub m2.out (by rw [sm64]; omega))
  have s2 := Lib.hid (m3.out.add m4.out (by rw [sm64]; omega))
  clear w1 w2 w3 w4 b1 b2 b3 b4 hx1 hx2 hy1 hy2 ha hb hc hd
  generalize widen x1 = u1 at *
  generalize widen x2 = u2 at *
  generalize widen y1 = u3 at *
  generalize widen y2 = u4 at *
  go_enter Tryz.func29, Tryz.ntmps29
  have t1 : True := trivial
  have t2 : True := trivial
  have t3 : True := trivial
  have t4 : True := trivial
  have t5 : True := trivial
  have t6 : True := trivial
  go_wp2_with (first
    | (have := t1; clear this t1; refine wpList_fop _ rfl .mul _ _ _ _ rfl rfl .f64 _ _ rfl rfl ?_; intro r1 q1 h1; obtain rfl : r1 = fop .mul .f64 u1 u3 := cn_num h1.out (FinK_not_nan m1.out.1))
    | (have := t2; clear this t2; refine wpList_fop _ rfl .mul _ _ _ _ rfl rfl .f64 _ _ rfl rfl ?_; intro r2 q2 h2; obtain rfl : r2 = fop .mul .f64 u2 u4 := cn_num h2.out (FinK_not_nan m2.out.1))
    | (have := t3; clear this t3; refine wpList_fop _ rfl .sub _ _ _ _ rfl rfl .f64 _ _ rfl rfl ?_; intro r3 q3 h3; obtain rfl : r3 = fop .sub .f64 (fop .mul .f64 u1 u3) (fop .mul .f64 u2 u4) := cn_num h3.out (FinK_not_nan s1.out.1))
    | (have := t4; clear this t4; refine wpList_fop _ rfl .mul _ _ _ _ rfl rfl .f64 _ _ rfl rfl ?_; intro r4 q4 h4; obtain rfl : r4 = fop .mul .f64 u1 u4 := cn_num h4.out (FinK_not_nan m3.out.1))
    | (have := t5; clear this t5; refine wpList_fop _ rfl .mul _ _ _ _ rfl rfl .f64 _ _ rfl rfl ?_; intro r5 q5 h5; obtain rfl : r5 = fop .mul .f64 u2 u3 := cn_num h5.out (FinK_not_nan m4.out.1))
    | (have := t6; clear this t6; refine wpList_fop _ rfl .add _ _ _ _ rfl rfl .f64 _ _ rfl rfl ?_; intro r6 q6 h6; obtain rfl : r6 = fop .add .f64 (fop .mul .f64 u1 u4) (fop .mul .f64 u2 u3) := cn_num h6.out (FinK_not_nan s2.out.1)))
  go_ret2
  exact ⟨_, _, rfl, s1, s2, _, rfl⟩
theorem mulC_v (x1 x2 y1 y2 : Nat) (a b c d : Int) (hx1 : Vl .f32 x1 a) (hx2 : Vl .f32 x2 b) (hy1 : Vl .f32 y1 c) (hy2 : Vl .f32 y2 d) (ha : a.natAbs ≤ 200) (hb : b.natAbs ≤ 200) (hc : c.natAbs ≤ 200) (hd : d.natAbs ≤ 200) (w : World) :
    Calls Tryz.prog 6 #[.complex .f32 x1 x2, .complex .f32 y1 y2] w fun e w' => ∃ r s, e = .returned (.complex .f32 r s) ∧ Hid (Vl .f32 r (a * c - b * d)) ∧ Hid (Vl .f32 s (a * d + b * c)) ∧ ∃ q, w' = w.drewN q := by
  have HT := Lib.hid (times_v x1 x2 y1 y2 a b c d hx1 hx2 hy1 hy2 (by omega) (by omega) (by omega) (by omega))
  have b1 := mul_bound ha hc
  have b2 := mul_bound hb hd
  have b3 := mul_bound ha hd
  have b4 := mul_bound hb hc
  have n1 : Hid ((a * c - b * d).natAbs < smK .f32) := by show _ < _; rw [sm32]; omega
  have n2 : Hid ((a * d + b * c).natAbs < smK .f32) := by show _ < _; rw [sm32]; omega
  clear b1 b2 b3 b4 hx1 hx2 hy1 hy2 ha hb hc hd
  go_enter Tryz.func6, Tryz.ntmps6
  go_wp2_with fail
  refine (HT.out _).mono ?_
  rintro e w1 ⟨r, s, rfl, hr, hs, q, rfl⟩
  have f1 := Lib.hid (hr.out.fits n1.out)
  have f2 := Lib.hid (hs.out.fits n2.out)
  have t1 : True := trivial
  have t2 : True := trivial
  go_wp2_with (first
    | (have := t1; clear this t1; refine wpList_narrow _ rfl 46 28 _ rfl rfl Tryz.underlying28 _ rfl f1.out ?_; intro r3 q3 h3)
    | (have := t2; clear this t2; refine wpList_narrow _ rfl 46 28 _ rfl rfl Tryz.underlying28 _ rfl f2.out ?_; intro r4 q4 h4))
  have v1 := hr.out.narrow n1.out
  have v2 := hs.out.narrow n2.out
  obtain rfl : r3 = narrow r := cn_num h3.out (FinK_not_nan v1.1)
  obtain rfl : r4 = narrow s := cn_num h4.out (FinK_not_nan v2.1)
  go_ret
  exact ⟨_, _, rfl, v1, v2, _, rfl⟩
theorem conj_any (x y : Nat) (w : World) : Calls Tryz.prog 8 #[.complex .f32 x y] w fun e w' => e = .returned (.complex .f32 x (Op.negFloat .f32 y)) ∧ w' = w := by
  go_enter Tryz.func8, Tryz.ntmps8
  go_wp2
  go_ret
  exact ⟨rfl, rfl⟩
def powF (x y : Nat) : Nat := fop .add .f64 (fop .mul .f64 (widen x) (widen x)) (fop .mul .f64 (widen y) (widen y))
theorem powF_v {x y : Nat} {a b : Int} (hx : Vl .f32 x a) (hy : Vl .f32 y b) (ha : a.natAbs ≤ 80000) (hb : b.natAbs ≤ 80000) : Vl .f64 (fop .mul .f64 (widen x) (widen x)) (a * a) ∧ Vl .f64 (fop .mul .f64 (widen y) (widen y)) (b * b) ∧ Vl .f64 (powF x y) (a * a + b * b) := by
  have w1 := hx.widen (by rw [sm64]; omega)
  have w2 := hy.widen (by rw [sm64]; omega)
  have b1 := mul_bound ha ha
  have b2 := mul_bound hb hb
  have m1 := w1.mul w1 (by rw [sm64]; omega)
  have m2 := w2.mul w2 (by rw [sm64]; omega)
  exact ⟨m1, m2, m1.add m2 (by rw [sm64]; omega)⟩
theorem power_v (x y : Nat) (a b : Int) (hx : Vl .f32 x a) (hy : Vl .f32 y b) (ha : a.natAbs ≤ 80000) (hb : b.natAbs ≤ 80000) (w : World) :
    Calls Tryz.prog 30 #[.complex .f32 x y] w fun e w' => e = .returned (.float .f64 (powF x y)) ∧ ∃ q, w' = w.drewN q := by
  have hcv := run_widen_num (P := Tryz.prog) 28 46 rfl Tryz.underlying46
  have c1 := fun w => hcv w x (FinK_not_nan hx.1)
  have c2 := fun w => hcv w y (FinK_not_nan hy.1)
  have hp := powF_v hx hy ha hb
  have m1 := Lib.hid hp.1.1
  have m2 := Lib.hid hp.2.1.1
  have m3 := Lib.hid hp.2.2.1
  clear hcv hx hy ha hb hp
  unfold powF at m3 ⊢
  generalize widen x = u1 at *
  generalize widen y = u2 at *
  go_enter Tryz.func30, Tryz.ntmps30
  have t1 : True := trivial
  have t2 : True := trivial
  have t3 : True := trivial
  go_wp2_with (first
    | (have := t1; clear this t1; refine wpList_fop _ rfl .mul _ _ _ _ rfl rfl .f64 _ _ rfl rfl ?_; intro r1 q1 h1; obtain rfl : r1 = fop .mul .f64 u1 u1 := cn_num h1.out (FinK_not_nan m1.out))
    | (have := t2; clear this t2; refine wpList_fop _ rfl .mul _ _ _ _ rfl rfl .f64 _ _ rfl rfl ?_; intro r2 q2 h2; obtain rfl : r2 = fop .mul .f64 u2 u2 := cn_num h2.out (FinK_not_nan m2.out))
    | (have := t3; clear this t3; refine wpList_fop _ rfl .add _ _ _ _ rfl rfl .f64 _ _ rfl rfl ?_; intro r3 q3 h3; obtain rfl : r3 = fop .add .f64 (fop .mul .f64 u1 u1) (fop .mul .f64 u2 u2) := cn_num h3.out (FinK_not_nan m3.out)))
  go_ret
  exact ⟨rfl, _, rfl⟩
theorem powerOf_v (x y : Nat) (a b : Int) (hx : Vl .f32 x a) (hy : Vl .f32 y b) (ha : a.natAbs ≤ 200) (hb : b.natAbs ≤ 200) (w : World) :
    Calls Tryz.prog 7 #[.complex .f32 x y] w fun e w' => ∃ r, e = .returned (.float .f32 r) ∧ Hid (Vl .f32 r (a * a + b * b)) ∧ ∃ q, w' = w.drewN q := by
  have HP := Lib.hid (power_v x y a b hx hy (by omega) (by omega))
  have b1 := mul_bound ha ha
  have b2 := mul_bound hb hb
  have n1 : Hid ((a * a + b * b).natAbs < smK .f32) := by show _ < _; rw [sm32]; omega
  have hv := Lib.hid (powF_v hx hy (by omega) (by omega)).2.2
  have hf := Lib.hid (hv.out.fits n1.out)
  clear b1 b2 hx hy ha hb
  go_enter Tryz.func7, Tryz.ntmps7
  go_wp2_with fail
  refine (HP.out _).mono ?_
  rintro e w1 ⟨rfl, q, rfl⟩
  have t1 : True := trivial
  go_wp2_with (have := t1; clear this t1; refine wpList_narrow _ rfl 46 28 _ rfl rfl Tryz.underlying28 _ rfl hf.out ?_; intro r3 q3 h3)
  have v1 := hv.out.narrow n1.out
  obtain rfl : r3 = narrow (powF x y) := cn_num h3.out (FinK_not_nan v1.1)
  go_ret
  exact ⟨_, rfl, v1, _, rfl⟩
set_option maxHeartbeats 1000000 in
theorem quoC_v (x1 x2 y1 y2 : Nat) (X Y a b c d : Int) (hx1 : Vl .f32 x1 X) (hx2 : Vl .f32 x2 Y) (hy1 : Vl .f32 y1 c) (hy2 : Vl .f32 y2 d) (hX : X.natAbs ≤ 80000) (hY : Y.natAbs ≤ 80000) (ha : a.natAbs ≤ 200) (hb : b.natAbs ≤ 200) (hc : c.natAbs ≤ 200) (hd : d.natAbs ≤ 200)
    (e1 : X * c - Y * -d = a * (c * c + d * d)) (e2 : X * -d + Y * c = b * (c * c + d * d)) (h0 : c * c + d * d ≠ 0) (w : World) :
    Calls Tryz.prog 12 #[.complex .f32 x1 x2, .complex .f32 y1 y2] w fun e w' => ∃ r s, e = .returned (.complex .f32 r s) ∧ Hid (Vl .f32 r a) ∧ Hid (Vl .f32 s b) ∧ ∃ q, w' = w.drewN q := by
  have HT := Lib.hid (times_v x1 x2 y1 (Op.negFloat .f32 y2) X Y c (-d) hx1 hx2 hy1 hy2.neg hX hY (by omega) (by rw [Int.natAbs_neg]; omega))
  rw [e1, e2] at HT
  have HP := Lib.hid (power_v y1 y2 c d hy1 hy2 (by omega) (by omega))
  have hv := Lib.hid (powF_v hy1 hy2 (by omega) (by omega)).2.2
  have n1 : Hid (a.natAbs < smK .f64) := by show _ < _; rw [sm64]; omega
  have n2 : Hid (b.natAbs < smK .f64) := by show _ < _; rw [sm64]; omega
  have n3 : Hid (a.natAbs < smK .f32) := by show _ < _; rw [sm32]; omega
  have n4 : Hid (b.natAbs < smK .f32) := by show _ < _; rw [sm32]; omega
  have H0 := Lib.hid h0
  clear hx1 hx2 hy1 hy2 hX hY ha hb hc hd e1 e2 h0
  go_enter Tryz.func12, Tryz.ntmps12
  go_wp2_with fail
  refine (conj_any _ _ _).mono ?_
  rintro e w0 ⟨rfl, rfl⟩
  go_wp2_with fail
  refine (HT.out _).mono ?_
  rintro e w1 ⟨r, s, rfl, hr, hs, q, rfl⟩
  go_wp2_with fail
  refine (HP.out _).mono ?_
  rintro e w2 ⟨rfl, q2, rfl⟩
  have v1 := Lib.hid (hr.out.quo hv.out H0.out n1.out)
  have v2 := Lib.hid (hs.out.quo hv.out H0.out n2.out)
  have f1 := Lib.hid (v1.out.fits n3.out)
  have f2 := Lib.hid (v2.out.fits n4.out)
  generalize powF y1 y2 = p at *
  have t1 : True := trivial
  have t2 : True := trivial
  have t3 : True := trivial
  have t4 : True := trivial
  go_wp2_with (first
    | (have := t1; clear this t1; refine wpList_fop _ rfl .quo _ _ _ _ rfl rfl .f64 _ _ rfl rfl ?_; intro u1 p1 h1; obtain rfl : u1 = fop .quo .f64 r p := cn_num h1.out (FinK_not_nan v1.out.1))
    | (have := t2; clear this t2; refine wpList_narrow _ rfl 46 28 _ rfl rfl Tryz.underlying28 _ rfl f1.out ?_; intro u2 p2 h2; obtain rfl : u2 = narrow (fop .quo .f64 r p) := cn_num h2.out (FinK_not_nan (v1.out.narrow n3.out).1))
    | (have := t3; clear this t3; refine wpList_fop _ rfl .quo _ _ _ _ rfl rfl .f64 _ _ rfl rfl ?_; intro u3 p3 h3; obtain rfl : u3 = fop .quo .f64 s p := cn_num h3.out (FinK_not_nan v2.out.1))
    | (have := t4; clear this t4; refine wpList_narrow _ rfl 46 28 _ rfl rfl Tryz.underlying28 _ rfl f2.out ?_; intro u4 p4 h4; obtain rfl : u4 = narrow (fop .quo .f64 s p) := cn_num h4.out (FinK_not_nan (v2.out.narrow n4.out).1)))
  go_ret
  exact ⟨_, _, rfl, v1.out.narrow n3.out, v2.out.narrow n4.out, _, rfl⟩
theorem scale_v (x y : Nat) (a b : Int) (hx : Vl .f32 x a) (hy : Vl .f32 y b) (ha : a.natAbs ≤ 200) (hb : b.natAbs ≤ 200) (w : World) :
    Calls Tryz.prog 13 #[.complex .f32 x y, .float .f32 1073741824] w fun e w' => ∃ r s, e = .returned (.complex .f32 r s) ∧ Hid (Vl .f32 r (a * 2)) ∧ Hid (Vl .f32 s (b * 2)) ∧ ∃ q, w' = w.drewN q := by
  have h2 : Vl .f32 1073741824 2 := Vl.of (by decide +kernel) (by decide)
  have m1 := Lib.hid (hx.mul h2 (by rw [sm32]; omega))
  have m2 := Lib.hid (hy.mul h2 (by rw [sm32]; omega))
  clear h2 hx hy ha hb
  go_enter Tryz.func13, Tryz.ntmps13
  have t1 : True := trivial
  have t2 : True := trivial
  go_wp2_with (first
    | (have := t1; clear this t1; refine wpList_fop _ rfl .mul _ _ _ _ rfl rfl .f32 _ _ rfl rfl ?_; intro r1 q1 h1; obtain rfl : r1 = fop .mul .f32 x 1073741824 := cn_num h1.out (FinK_not_nan m1.out.1))
    | (have := t2; clear this t2; refine wpList_fop _ rfl .mul _ _ _ _ rfl rfl .f32 _ _ rfl rfl ?_; intro r2 q2 h2; obtain rfl : r2 = fop .mul .f32 y 1073741824 := cn_num h2.out (FinK_not_nan m2.out.1)))
  go_ret
  exact ⟨_, _, rfl, m1, m2, _, rfl⟩
end Go.Proofs.YtijafnejdibdlaaGreatDoor
