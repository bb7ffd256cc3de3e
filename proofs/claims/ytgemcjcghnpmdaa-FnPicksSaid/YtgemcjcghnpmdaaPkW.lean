/- The statement FnPicks: what its walk uses. -/
import Derived.Test.YtgemcjcghnpmdaaPkI
import Derived.Test.YtgemcjcghnpmdaaKx
import Derived.Test.YtgemcjcghnpmdaaAliasI
import Derived.Test.YtgemcjcghnpmdaaPickSeed
namespace Go.Proofs.Ytgemcjcghnpmdaa
open Go.RowKit
theorem b10At_b (A : Option Addr) (n c B : Nat) (xs : List Int) (i m : Int) (w : World) (h : Rd w B A n (u8s xs)) (hb : Bytes xs) (hi : 0 ≤ i ∧ i ≤ 1000000) (hm : 1 ≤ m ∧ m ≤ 1000000) :
    Calls Try.prog 6 #[.slice A n c, .int .i64 i, .int .i64 m] w fun e w' => ∃ x : Nat, e = .returned (.int .i64 x) ∧ (x : Int) < m ∧ Hid (Below w.heap.size w w') :=
  (b10At_any A n c B xs i m w h hb hi hm).mono fun _ _ ⟨x, he, hx, q, hq⟩ => ⟨x.toNat, by rw [he, Int.toNat_of_nonneg hx.1], by omega, by show Below _ _ _; rw [hq]; exact below_drewN' q⟩
/-- Two calls that give the same. -/
theorem twoSNB {w w' v v' : World} {r : Option (Sd × Int)} {e e' : Ending} (h : GaveSNB w r e w') (h' : GaveSNB v r e' v') :
    ∃ (s : Sd) (x : Int) (ok : Bool), e = .returned (.tuple #[.agg #[.int .i64 s.kind, .int .u64 s.a, .int .u64 s.b], .int .i64 x, .bool ok]) ∧ e' = .returned (.tuple #[.agg #[.int .i64 s.kind, .int .u64 s.a, .int .u64 s.b], .int .i64 x, .bool ok]) ∧ Hid (ok = true → r = some (s, x)) ∧ Hid (Below w.heap.size w w') ∧ Hid (Below v.heap.size v v') := by
  obtain ⟨k, a, b, x, ok, rfl, h1, h2, h3, hb⟩ := h
  obtain ⟨k', a', b', x', ok', rfl, h1', h2', h3', hb'⟩ := h'
  obtain rfl : ok = ok' := h1.out.trans h1'.out.symm
  obtain rfl : x = x' := h3.out.trans h3'.out.symm
  have e := h2.out.trans h2'.out.symm
  obtain ⟨rfl, rfl, rfl⟩ : k = k' ∧ a = a' ∧ b = b' := by simpa using e
  refine ⟨⟨k, a, b⟩, x, ok, rfl, rfl, fun ht => ?_, hb, hb'⟩
  subst ht
  cases r with
  | none => have := h1.out; cases this
  | some p =>
    obtain ⟨s, z⟩ := p
    have e2 : (⟨k, a, b⟩ : Sd) = s := h2.out
    have e3 : x = z := h3.out
    rw [e2, e3]
/-- What is handed back, the first of two calls: names for the parts. -/
theorem gaveSNB_names {w w' : World} {r : Option (Sd × Int)} {e : Ending} (h : GaveSNB w r e w') :
    ∃ (s : Sd) (x : Int) (ok : Bool), e = .returned (.tuple #[.agg #[.int .i64 s.kind, .int .u64 s.a, .int .u64 s.b], .int .i64 x, .bool ok]) ∧ Hid (ok = r.isSome ∧ s = (r.map Prod.fst).getD Sd.zero ∧ x = (r.map Prod.snd).getD 0) ∧ Hid (Below w.heap.size w w') := by
  obtain ⟨k, a, b, x, ok, rfl, h1, h2, h3, hb⟩ := h
  exact ⟨⟨k, a, b⟩, x, ok, rfl, ⟨h1.out, h2.out, h3.out⟩, hb⟩
/-- .. the second: the same parts. -/
theorem gaveSNB_same {w w' : World} {r : Option (Sd × Int)} {e : Ending} (h : GaveSNB w r e w') {s : Sd} {x : Int} {ok : Bool} (hn : Hid (ok = r.isSome ∧ s = (r.map Prod.fst).getD Sd.zero ∧ x = (r.map Prod.snd).getD 0)) :
    e = .returned (.tuple #[.agg #[.int .i64 s.kind, .int .u64 s.a, .int .u64 s.b], .int .i64 x, .bool ok]) ∧ Hid (Below w.heap.size w w') := by
  obtain ⟨k, a, b, x', ok', rfl, h1, h2, h3, hb⟩ := h
  obtain ⟨e1, e2, e3⟩ := hn.out
  subst e1 e3
  have e4 := h2.out.trans e2.symm
  have hk : k = s.kind := congrArg Sd.kind e4
  have ha : a = s.a := congrArg Sd.a e4
  have hb' : b = s.b := congrArg Sd.b e4
  subst hk ha hb'
  exact ⟨by rw [h1.out, h3.out], hb⟩
theorem gaveSLB_names {w w' : World} {r : Option (Sd × List Int)} {e : Ending} (h : GaveSLB w r e w') :
    ∃ (s : Sd) (l : List Int) (A : Option Addr) (c : Nat) (ok : Bool), e = .returned (.tuple #[.agg #[.int .i64 s.kind, .int .u64 s.a, .int .u64 s.b], .slice A l.length c, .bool ok]) ∧ Hid (ok = r.isSome ∧ s = (r.map Prod.fst).getD Sd.zero ∧ l = (r.map Prod.snd).getD []) ∧ Hid (Rd w' w'.heap.size A l.length (i64s l)) ∧ Hid (Below w.heap.size w w') := by
  obtain ⟨k, a, b, v, ok, rfl, h1, h2, ho, hb⟩ := h
  obtain ⟨A, c, rfl, _⟩ := ho.shapeI
  exact ⟨⟨k, a, b⟩, _, A, c, ok, rfl, ⟨h1.out, h2.out, rfl⟩, ho.rdI, hb⟩
theorem gaveSLB_same {w w' : World} {r : Option (Sd × List Int)} {e : Ending} (h : GaveSLB w r e w') {s : Sd} {l : List Int} {ok : Bool} (hn : Hid (ok = r.isSome ∧ s = (r.map Prod.fst).getD Sd.zero ∧ l = (r.map Prod.snd).getD [])) :
    ∃ (A : Option Addr) (c : Nat), e = .returned (.tuple #[.agg #[.int .i64 s.kind, .int .u64 s.a, .int .u64 s.b], .slice A l.length c, .bool ok]) ∧ Hid (Rd w' w'.heap.size A l.length (i64s l)) ∧ Hid (Below w.heap.size w w') := by
  obtain ⟨k, a, b, v, ok', rfl, h1, h2, ho, hb⟩ := h
  obtain ⟨e1, e2, e3⟩ := hn.out
  subst e1 e3
  obtain ⟨A, c, rfl, _⟩ := ho.shapeI
  have e4 := h2.out.trans e2.symm
  have hk : k = s.kind := congrArg Sd.kind e4
  have ha : a = s.a := congrArg Sd.a e4
  have hb' : b = s.b := congrArg Sd.b e4
  subst hk ha hb'
  exact ⟨A, c, by rw [h1.out], ho.rdI, hb⟩
theorem names_L {r : Option (Sd × List Int)} {s : Sd} {l : List Int} {ok : Bool} (h : Hid (ok = r.isSome ∧ s = (r.map Prod.fst).getD Sd.zero ∧ l = (r.map Prod.snd).getD [])) : (ok = true → r = some (s, l)) ∧ (ok = false → l = []) := by
  obtain ⟨h1, h2, h3⟩ := h.out
  cases r with
  | none => exact ⟨fun e => by rw [e] at h1; simp at h1, fun _ => by rw [h3]; rfl⟩
  | some p => exact ⟨fun _ => by rw [h2, h3]; rfl, fun e => by rw [e] at h1; simp at h1⟩
theorem names_N {r : Option (Sd × Int)} {s : Sd} {x : Int} {ok : Bool} (h : Hid (ok = r.isSome ∧ s = (r.map Prod.fst).getD Sd.zero ∧ x = (r.map Prod.snd).getD 0)) (e : ok = true) : r = some (s, x) := by
  obtain ⟨h1, h2, h3⟩ := h.out
  cases r with
  | none => rw [e] at h1; simp at h1
  | some p => rw [h2, h3]; rfl
theorem gaveAB_got {w w' : World} {r : Option (List Nat × List Int)} {e : Ending} (h : GaveAB w r e w') {S : List Nat} {O : List Int} {n : Nat} (hr : r = some (S, O)) (hS : S.length = n) (hO : O.length = n) :
    ∃ (A A' : Option Addr) (c c' : Nat), e = .returned (.tuple #[.agg #[.slice A n c, .slice A' n c'], .bool true]) ∧ Rd w' w'.heap.size A n (f32s S) ∧ Rd w' w'.heap.size A' n (i64s O) ∧ Below w.heap.size w w' := by
  obtain ⟨v, v', ok, rfl, h1, h2, h3, _, hb⟩ := h
  subst hr
  obtain rfl : ok = true := h1.out
  obtain ⟨A, c, rfl, _, _, hr1⟩ := Own.shapeV (n := n) h2 (by rw [f32s_length]; exact hS)
  obtain ⟨A', c', rfl, _, _, hr2⟩ := Own.shapeV (n := n) h3 (by rw [i64s_length]; exact hO)
  exact ⟨A, A', c, c', rfl, hr1, hr2, hb⟩
theorem gaveLB_got {w w' : World} {r : Option (List Int)} {e : Ending} (h : GaveLB w r e w') {O : List Int} {n : Nat} (hr : r = some O) (hO : O.length = n) :
    ∃ (A : Option Addr) (c : Nat), e = .returned (.tuple #[.slice A n c, .bool true]) ∧ (n ≤ c ∧ c ≤ maxLen) ∧ Rd w' w'.heap.size A n (i64s O) ∧ Below w.heap.size w w' := by
  obtain ⟨v, ok, rfl, h1, h2, hb⟩ := h
  subst hr
  obtain rfl : ok = true := h1.out
  obtain ⟨A, c, rfl, h3, h4, hr1⟩ := Own.shapeV (n := n) h2 (by rw [i64s_length]; exact hO)
  exact ⟨A, c, rfl, ⟨h3, h4⟩, hr1, hb⟩
theorem gaveNB_got {w w' : World} {r : Option Int} {e : Ending} (h : GaveNB w r e w') {x : Int} (hr : r = some x) :
    e = .returned (.tuple #[.int .i64 x, .bool true]) ∧ Below w.heap.size w w' := by
  obtain ⟨y, ok, rfl, h1, h2, hb⟩ := h
  subst hr
  obtain rfl : ok = true := h1.out
  obtain rfl : y = x := h2.out
  exact ⟨rfl, hb⟩
/-- A list of float64. -/
def f64s (cs : List Nat) : List Value := cs.map (Value.float .f64)
theorem f64s_length (cs : List Nat) : (f64s cs).length = cs.length := by simp [f64s]
theorem f64s_set (xs : List Nat) (j x : Nat) : (f64s xs).set j (.float .f64 x) = f64s (xs.set j x) := by simp [f64s, List.map_set]
theorem f64s_get {xs : List Nat} {j x : Nat} (h : xs[j]? = some x) : (f64s xs)[j]? = some (.float .f64 x) := by simp [f64s, h]
theorem info_f64 : (Try.prog.info? 38).map (fun i => (i.zero, i.size, i.bytes)) = some (some (.float .f64 0), 1, 8) := by kernel_rfl
/-- The gap of two numbers, as the program has it. -/
def gapF (x y : Nat) : Nat := if flt .f64 x y then fop .sub .f64 y x else fop .sub .f64 x y
theorem gap_In {x y : Nat} {a b c d : Int} (hx : In .f64 a b x) (hy : In .f64 c d y) (h1 : -100 ≤ a - d) (h2 : b - c ≤ 100) (ha : -8000000 ≤ a ∧ b ≤ 8000000) : In .f64 (-200) 200 (gapF x y) := by
  have hab := hx.le
  have hcd := hy.le
  unfold gapF
  split
  · exact (hy.sub hx (by unfold lim; omega) (by unfold lim; omega)).weak (by omega) (by omega)
  · exact (hx.sub hy (by unfold lim; omega) (by unfold lim; omega)).weak (by omega) (by omega)
theorem b10Gap_x (x y : Nat) (w : World) (h1 : isNaNB .f64 (fop .sub .f64 y x) = false) (h2 : isNaNB .f64 (fop .sub .f64 x y) = false) :
    Calls Try.prog 12 #[.float .f64 x, .float .f64 y] w fun e w' => e = .returned (.float .f64 (gapF x y)) ∧ w' = w := by
  have hs1 := fun (t : TypeId) (w : World) => run_fop_num2 (P := Try.prog) (rfl : fop .sub .f64 x y = fop .sub .f64 x y) h2 t w
  have hs2 := fun (t : TypeId) (w : World) => run_fop_num2 (P := Try.prog) (rfl : fop .sub .f64 y x = fop .sub .f64 y x) h1 t w
  clear h1 h2
  go_enter Try.func12, Try.ntmps12
  cases hl : flt .f64 x y with
  | true =>
    have he : gapF x y = fop .sub .f64 y x := by unfold gapF; rw [if_pos hl]
    rw [he]
    unfold flt at hl
    go_wp2
    go_ret
    exact ⟨rfl, rfl⟩
  | false =>
    have he : gapF x y = fop .sub .f64 x y := by unfold gapF; rw [if_neg (by rw [hl]; simp)]
    rw [he]
    unfold flt at hl
    go_wp2
    go_ret
    exact ⟨rfl, rfl⟩
theorem b10Gap_q (x y : Nat) (w : World) (h1 : isNaNB .f64 (fop .sub .f64 y x) = false) (h2 : isNaNB .f64 (fop .sub .f64 x y) = false) :
    Calls Try.prog 12 #[.float .f64 x, .float .f64 y] w fun e w' => e = .returned (.float .f64 (gapF x y)) ∧ ∃ m, w' = w.drewN m :=
  (b10Gap_x x y w h1 h2).mono fun _ _ ⟨he, hw⟩ => ⟨he, 0, hw⟩
theorem thou_In : In .f64 262 263 4562254508917369340 := In.const (by decide +kernel)
theorem gap_small {z : Nat} (h : In .f64 (-200) 200 z) : (FloatKind.f64.format.order z 4562254508917369340 == some Ordering.gt) = false := by
  have := fgt_KV h.1 thou_In.1
  unfold fgt at this
  rw [this]
  exact decide_eq_false (by have := h.key_le thou_In (by omega); omega)
/-- The gap between what an alias gives and what the weight is. -/
theorem near_gap {n : Nat} (h1 : 1 ≤ n) (h12 : n ≤ 12) {c x all nf : Nat} {lo hi u k S : Int} (hk : 1 ≤ k ∧ k ≤ 16) (hS : 1 ≤ S ∧ S ≤ 192) (hkS : k ≤ S)
    (hc : In .f64 lo hi c) (hlo : u - 40 ≤ lo) (hhi : hi ≤ u + 40) (hx : In .f64 (65536 * k) (65536 * k) x) (hall : In .f64 (65536 * S) (65536 * S) all) (hn : In .f64 (262144 * (n : Int)) (262144 * (n : Int)) nf)
    (hu1 : u * S ≤ k * n * 262144) (hu2 : k * n * 262144 < (u + 1) * S) :
    isNaNB .f64 (fop .quo .f64 c nf) = false ∧ isNaNB .f64 (fop .quo .f64 x all) = false ∧ isNaNB .f64 (fop .sub .f64 (fop .quo .f64 x all) (fop .quo .f64 c nf)) = false ∧ isNaNB .f64 (fop .sub .f64 (fop .quo .f64 c nf) (fop .quo .f64 x all)) = false
      ∧ In .f64 (-200) 200 (gapF (fop .quo .f64 c nf) (fop .quo .f64 x all)) := by
  obtain ⟨a, ha⟩ : ∃ a, k * 262144 / S = a := ⟨_, rfl⟩
  have a1 : a * S ≤ k * 262144 := by rw [← ha]; exact Int.ediv_mul_le _ (by omega)
  have a2 : k * 262144 < (a + 1) * S := by rw [← ha]; exact Int.lt_ediv_add_one_mul_self _ (by omega)
  have a0 : 0 ≤ a := by rw [← ha]; exact Int.ediv_nonneg (by omega) (by omega)
  have aT : a ≤ 262144 := by
    have : a * S ≤ 262144 * S := by
      calc a * S ≤ k * 262144 := a1
        _ ≤ S * 262144 := by omega
        _ = 262144 * S := Int.mul_comm ..
    exact Int.le_of_mul_le_mul_right this (by omega)
  have b1 : a * n ≤ u := by
    have : a * n * S < (u + 1) * S := by
      calc a * n * S = a * S * n := by rw [Int.mul_assoc, Int.mul_comm (n : Int), ← Int.mul_assoc]
        _ ≤ k * 262144 * n := Int.mul_le_mul_of_nonneg_right a1 (by omega)
        _ = k * n * 262144 := by rw [Int.mul_assoc, Int.mul_comm 262144, ← Int.mul_assoc]
        _ < _ := hu2
    have := Int.lt_of_mul_lt_mul_right this (by omega)
    omega
  have b2 : u < (a + 1) * n := by
    have : u * S < (a + 1) * n * S := by
      calc u * S ≤ k * n * 262144 := hu1
        _ = k * 262144 * n := by rw [Int.mul_assoc, Int.mul_comm (n : Int), ← Int.mul_assoc]
        _ < (a + 1) * S * n := Int.mul_lt_mul_of_pos_right a2 (by omega)
        _ = (a + 1) * n * S := by rw [Int.mul_assoc, Int.mul_comm S, ← Int.mul_assoc]
    exact Int.lt_of_mul_lt_mul_right this (by omega)
  have au : 1365 ≤ a := by
    have : 262144 < (a + 1) * 192 := by
      calc (262144 : Int) ≤ k * 262144 := by omega
        _ < (a + 1) * S := a2
        _ ≤ (a + 1) * 192 := Int.mul_le_mul_of_nonneg_left hS.2 (by omega)
    omega
  have hnn : (1 : Int) ≤ n ∧ (n : Int) ≤ 12 := by omega
  have c1 : 1365 ≤ u := by
    have : a * 1 ≤ a * n := Int.mul_le_mul_of_nonneg_left hnn.1 (by omega)
    omega
  have c2 : u < 3145740 := by
    have : (a + 1) * n ≤ 262145 * 12 := Int.mul_le_mul (by omega) hnn.2 (by omega) (by omega)
    omega
  obtain ⟨p, hp⟩ : ∃ p, lo / n = p := ⟨_, rfl⟩
  have p1 : p * n ≤ lo := by rw [← hp]; exact Int.ediv_mul_le _ (by omega)
  have p2 : lo < (p + 1) * n := by rw [← hp]; exact Int.lt_ediv_add_one_mul_self _ (by omega)
  have p0 : 0 ≤ p := by rw [← hp]; exact Int.ediv_nonneg (by omega) (by omega)
  obtain ⟨r, hr⟩ : ∃ r, hi / n = r := ⟨_, rfl⟩
  have r1 : r * n ≤ hi := by rw [← hr]; exact Int.ediv_mul_le _ (by omega)
  have r2 : hi < (r + 1) * n := by rw [← hr]; exact Int.lt_ediv_add_one_mul_self _ (by omega)
  have hcle := hc.le
  have r0 : 0 ≤ r := by rw [← hr]; exact Int.ediv_nonneg (by omega) (by omega)
  have g1 : a - p ≤ 42 := by
    rcases Int.lt_or_le 42 (a - p) with h | h
    · have : (a - p - 1) * 1 ≤ (a - p - 1) * n := Int.mul_le_mul_of_nonneg_left hnn.1 (by omega)
      have e : (a - p - 1) * n = a * n - (p + 1) * n := by rw [Int.sub_mul, Int.sub_mul, Int.add_mul]; omega
      omega
    · exact h
  have g2 : r - a ≤ 42 := by
    rcases Int.lt_or_le 42 (r - a) with h | h
    · have : (r - a - 1) * 1 ≤ (r - a - 1) * n := Int.mul_le_mul_of_nonneg_left hnn.1 (by omega)
      have e : (r - a - 1) * n = r * n - (a + 1) * n := by rw [Int.sub_mul, Int.sub_mul, Int.add_mul]; omega
      omega
    · exact h
  have hrn : r ≤ 3145780 := by
    have : r * 1 ≤ r * n := Int.mul_le_mul_of_nonneg_left hnn.1 r0
    omega
  have q1 : In .f64 p (r + 1) (fop .quo .f64 c nf) := by
    refine hc.quo hn (by omega) (by omega) p0 (by omega) ?_ ?_
    · have : p * (262144 * (n : Int)) = 262144 * (p * n) := by rw [← Int.mul_assoc, Int.mul_comm p, Int.mul_assoc]
      rw [this]; omega
    · have : (r + 1) * (262144 * (n : Int)) = 262144 * ((r + 1) * n) := by rw [← Int.mul_assoc, Int.mul_comm (r + 1), Int.mul_assoc]
      rw [this]; omega
  have q2 : In .f64 a (a + 1) (fop .quo .f64 x all) := by
    refine hx.quo hall (by omega) (by omega) a0 (by omega) ?_ ?_
    · have : a * (65536 * S) = 65536 * (a * S) := by rw [← Int.mul_assoc, Int.mul_comm a, Int.mul_assoc]
      rw [this]; omega
    · have : (a + 1) * (65536 * S) = 65536 * ((a + 1) * S) := by rw [← Int.mul_assoc, Int.mul_comm (a + 1), Int.mul_assoc]
      rw [this]; omega
  have hpr := q1.le
  exact ⟨q1.num, q2.num, (q2.sub q1 (by unfold lim; omega) (by unfold lim; omega)).num, (q1.sub q2 (by unfold lim; omega) (by unfold lim; omega)).num, gap_In q1 q2 (by omega) (by omega) (by omega)⟩
theorem Rd.atV {w : World} {B n k : Nat} {A : Option Addr} {xs : List Value} {u : Value} (h : Rd w B A n xs) (hk : k < n) (hu : xs[k]? = some u) : ∃ b off, A = some ⟨b, off, none⟩ ∧ b < B ∧ w.cell? ⟨b, off + k, none⟩ = some u := by
  obtain ⟨b, off, e, hb, hc⟩ := h.2 (by omega)
  exact ⟨b, off, e, hb, hc k u hu⟩
theorem one64_In : In .f64 262144 262144 4607182418800017408 := In.const (by decide +kernel)
theorem zero64_In : In .f64 0 0 0 := In.const (by decide +kernel)
/-- One share more, and what is left of it. -/
theorem cs_step {n k o : Nat} {cs : List Nat} {L H : Nat → Int} {s : Nat} {a b : Int} (hl : cs.length = n) (hk : k < n) (ho : o < n) (h : ∀ i, i < n → In .f64 (L i) (H i) (cs.getD i 0)) (hs : In .f64 a b s)
    (hb : ∀ i, i < n → -30000 ≤ L i ∧ H i ≤ 8000000) (hab : -1000 ≤ a ∧ b ≤ 262145) :
    ∃ c1 d c2 : Nat, fop .add .f64 (cs.getD k 0) s = c1 ∧ isNaNB .f64 c1 = false ∧ fop .sub .f64 4607182418800017408 s = d ∧ isNaNB .f64 d = false
      ∧ fop .add .f64 ((cs.set k c1).getD o 0) d = c2 ∧ isNaNB .f64 c2 = false
      ∧ Hid (∀ i, i < n → In .f64 (L i + ((if k = i then a else 0) + (if (o : Int) = (i : Int) then 262144 - b else 0))) (H i + ((if k = i then b else 0) + (if (o : Int) = (i : Int) then 262144 - a else 0))) (((cs.set k c1).set o c2).getD i 0)) := by
  have hle := hs.le
  have ck := h k hk
  have bk := hb k hk
  have lk := ck.le
  have i1 := ck.add hs (by unfold lim; omega) (by unfold lim; omega)
  have i2 := one64_In.sub hs (by unfold lim; omega) (by unfold lim; omega)
  have e1 : ∀ i, i < n → In .f64 (L i + (if k = i then a else 0)) (H i + (if k = i then b else 0)) ((cs.set k (fop .add .f64 (cs.getD k 0) s)).getD i 0) := fun i hi => by
    rw [getD_set _ _ _ _ (by omega)]
    by_cases e : i = k
    · subst e; rw [if_pos rfl, if_pos rfl, if_pos rfl]; exact i1
    · rw [if_neg e, if_neg (fun e' => e e'.symm), if_neg (fun e' => e e'.symm)]
      exact (h i hi).weak (by omega) (by omega)
  have co := e1 o ho
  have bo := hb o ho
  have lo_ := (h o ho).le
  have i3 := co.add i2 (by unfold lim; split <;> omega) (by unfold lim; split <;> omega)
  refine ⟨_, _, _, rfl, i1.num, rfl, i2.num, rfl, i3.num, fun i hi => ?_⟩
  rw [getD_set _ _ _ _ (by rw [List.length_set]; omega)]
  by_cases e : i = o
  · subst e
    rw [if_pos rfl, if_pos rfl, if_pos rfl]
    exact i3.weak (by omega) (by omega)
  · have e' : ¬ (o : Int) = (i : Int) := by omega
    rw [if_neg e, if_neg e', if_neg e']
    exact (e1 i hi).weak (by omega) (by omega)
theorem nf_all : (List.range 13).all (fun n => inB_ .f64 (262144 * n) (262144 * n) (floatOfInt .f64 (n : Int))) = true := by decide +kernel
theorem nf_In {n : Nat} (h : n < 13) : In .f64 (262144 * (n : Int)) (262144 * (n : Int)) (floatOfInt .f64 (n : Int)) := In.const (List.all_eq_true.1 nf_all n (List.mem_range.2 h))
end Go.Proofs.Ytgemcjcghnpmdaa
