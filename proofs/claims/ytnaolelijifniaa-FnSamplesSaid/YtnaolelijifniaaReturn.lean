/- ReturnSeed: math/bits.Mul by one, slices.Repeat of one number, the reference. -/
import Derived.Test.YtnaolelijifniaaStream
import Derived.Lib.Mul64
import Derived.Laws.Bits64b
import Derived.Laws.CopyOwn
namespace Go.Proofs.Ytnaolelijifniaa
open Go.RowKit
theorem mask32 (k : Nat) (hk : k ≤ 64) : bits .and .u64 (k : Int) 4294967295 = (k : Int) := by
  have h := bits_and_u64_nat k 4294967295 (by omega) (by omega)
  have e : k &&& 4294967295 = k % 4294967296 := Nat.and_two_pow_sub_one_eq_mod k 32
  rw [e, Nat.mod_eq_of_lt (by omega)] at h
  exact h
theorem mask32_1 : bits .and .u64 1 4294967295 = 1 := by rfl
theorem mask32_0 : bits .and .u64 0 4294967295 = 0 := by rfl
theorem div32 (k : Nat) (hk : k ≤ 64) : (k : Int) / 4294967296 = 0 := by omega
theorem wrapS (k : Nat) (hk : k ≤ 64) : IntKind.u64.wrap (k : Int) = (k : Int) := by rw [IntKind.wrap_u64]; omega
theorem mul64_any (k : Nat) (w : World) (hk : k ≤ 64) : Calls Try.prog 54 #[.int .u64 1, .int .u64 (k : Int)] w fun e w' => e = .returned (.tuple #[.int .u64 0, .int .u64 (k : Int)]) ∧ w' = w := by
  have h1 := mask32 k hk
  have h2 := div32 k hk
  have h3 := mask32_1
  have h4 := mask32_0
  have h5 := wrapS k hk
  go_enter Try.func54, Try.ntmps54
  go_wp2
  go_ret2
  refine ⟨?_, rfl⟩
  simp
theorem mul_any (k : Nat) (w : World) (hk : k ≤ 64) : Calls Try.prog 38 #[.int .u64 1, .int .u64 (k : Int)] w fun e w' => e = .returned (.tuple #[.int .u64 0, .int .u64 (k : Int)]) ∧ w' = w := by
  go_enter Try.func38, Try.ntmps38
  go_wp2_with (go_at_call 54; refine (mul64_any k _ hk).mono ?_; rintro e w' ⟨rfl, hw⟩; rw [hw])
  go_ret2
  exact ⟨rfl, rfl⟩
/-- A row of k cells, the first j of them filled. -/
def repRow (x : Int) (k j : Nat) : List Value := List.replicate j (.int .i64 x) ++ List.replicate (k - j) (.int .i64 0)
theorem repRow_len {x : Int} {k j : Nat} (h : j ≤ k) : (repRow x k j).length = k := by simp [repRow]; omega
theorem repRow_zero (x : Int) (k : Nat) : repRow x k 0 = List.replicate k (.int .i64 0) := by simp [repRow]
theorem repRow_full (x : Int) (k : Nat) : repRow x k k = i64s (List.replicate k x) := by simp [repRow, i64s]
theorem repRow_get {x : Int} {k j i : Nat} (h : i < j) : (repRow x k j)[i]? = some (.int .i64 x) := by
  unfold repRow
  rw [List.getElem?_append_left (by simpa using h)]
  simp [h]
theorem repRow_splice {x : Int} {k j m : Nat} (h : j + m ≤ k) : splice (repRow x k j) j (List.replicate m (.int .i64 x)) = repRow x k (j + m) := by
  unfold splice repRow
  rw [List.take_append_of_le_length (by simp), List.take_of_length_le (by simp), List.drop_append, List.drop_eq_nil_of_le (by simp), List.length_replicate, List.length_replicate, List.nil_append, List.drop_replicate, ← List.append_assoc, List.replicate_append_replicate]
  congr 2
  omega
theorem row_heap {w : World} {base g n : Nat} {e : TypeId} {xs : List Value} (h : w.ownsRow base e 1 (.slice (some ⟨g, 0, none⟩) n n) n xs) : w.heap[g]? = some (.cells xs.toArray e (0, 0)) := by
  obtain ⟨hl, hn | ⟨g', cap, cur, hv, _, hg, _, _, hs, ht⟩⟩ := h
  · cases hn.1
  · simp only [Value.slice.injEq, Option.some.injEq, Addr.mk.injEq] at hv
    obtain ⟨⟨rfl, _⟩, _, rfl⟩ := hv
    rw [hg]
    rw [Nat.mul_one] at hs ht
    rw [List.take_of_length_le (by simp [hs])] at ht
    rw [← ht]
theorem heap_own {w : World} {base g n : Nat} {e : TypeId} {xs : List Value} (h : w.heap[g]? = some (.cells xs.toArray e (0, 0))) (hl : xs.length = n) (hb : base ≤ g) (hn : n ≤ maxLen) : Own w base e (.slice (some ⟨g, 0, none⟩) n n) xs := by
  subst hl
  refine ⟨by simp, .inr ⟨g, xs.length, xs.toArray, rfl, hb, h, Nat.le_refl _, hn, by simp, by simp⟩⟩
set_option maxRecDepth 20000 in
set_option maxHeartbeats 1000000 in
theorem repeat_any (h : Nat) (x : Int) (k : Nat) (w : World) (hlt : h < w.heap.size) (hc : w.cell? ⟨h, 0, none⟩ = some (.int .i64 x)) (hk : k ≤ 64) :
    Calls Try.prog 25 #[.slice (some ⟨h, 0, none⟩) 1 1, .int .i64 (k : Int)] w fun e w' => ∃ v, e = .returned v ∧ Own w' w.heap.size 2 v (i64s (List.replicate k x)) ∧ Below w.heap.size w w' := by
  have Hc := Lib.hid hc
  clear hc
  have hk0 : ¬ (k : Int) < 0 := by omega
  have hkm : ¬ (9223372036854775807 : Int) < (k : Int) := by omega
  obtain ⟨i0, hi0, hz0, hz1, hz2⟩ := info_parts info_i64'
  go_enter Try.func25, Try.ntmps25
  go_wp2_with fail
  have hw5 := wrapS k hk
  refine (mul_any k _ hk).mono ?_
  rintro e w1 ⟨rfl, rfl⟩
  go_wp2_with (at_make; refine wpList_make_full _ rfl _ _ 29 rfl w1.heap.size 2 i0 (.int .i64 0) 1 Try.underlying29 hi0 hz0 hz1 _ _ _ _ k rfl rfl rfl rfl ?c1 ?c2 ?c3 ?_)
  case c1 => rw [hz2]; omega
  case c2 => unfold maxLen; omega
  case c3 => exact Nat.le_refl _
  intro w2 hown hgrow
  have hg2 : w2.heap[w1.heap.size]? = some (.cells (repRow x k 0).toArray 2 (0, 0)) := by
    have := row_heap hown
    rw [madeCells_one] at this
    rw [repRow_zero]
    exact this
  have hb2 : Below w1.heap.size w1 w2 := (Below.refl _ _).grown hgrow (Nat.le_refl _) (by simp)
  have hc2 : w2.cell? ⟨h, 0, none⟩ = some (.int .i64 x) := (hb2.cell (p := ⟨h, 0, none⟩) hlt).trans Hc.out
  have HG2 := Lib.hid hg2; have HB2 := Lib.hid hb2; have HC2 := Lib.hid hc2
  obtain ⟨hh, Hhh⟩ : ∃ hh, Hid (hh = w1.heap.size) := ⟨_, rfl⟩
  rw [← Hhh.out] at HG2 ⊢
  obtain ⟨m0, Hm0⟩ : ∃ m0, Hid (m0 = min 1 k) := ⟨_, rfl⟩
  obtain ⟨cs, Hcs⟩ : ∃ cs : List Value, Hid (cs = List.replicate m0 (.int .i64 x)) := ⟨_, rfl⟩
  have hm1 : m0 ≤ 1 ∧ m0 ≤ k ∧ (0 < k → 0 < m0) := by rw [Hm0.out]; omega
  have hcl : cs.length = m0 := by rw [Hcs.out, List.length_replicate]
  have Hcl := Lib.hid hcl
  have hmm : m0 = Nat.min 1 k := Hm0.out
  have Hmm := Lib.hid hmm
  have Hge : Hid (w1.heap.size ≤ hh) := by show _ ≤ _; rw [Hhh.out]; exact Nat.le_refl _
  clear hown hgrow hg2 hb2 hc2 hi0 hz0 hz1 hz2 hcl hmm
  go_wp2_with (with_reducible refine wpList_copy_splice (o := ⟨some 33, _, _, _, _, _⟩) rfl (.tmp 31) (.tmp 32) 29 29 rfl 2 rfl (by kernel_rfl) _ _ _ _ _ _ rfl rfl hh 0 (repRow x k 0) 2 HG2.out cs ?c1 ?c2 ?c3 ?c4 w1.heap.size w1 HB2.out ?c5 ?_)
  case c1 => rw [Hcl.out, Hmm.out]
  case c2 =>
    (try intro hp)
    (try refine ⟨rfl, _, rfl, ?_⟩)
    intro j v hj
    have hjm : j < 1 := by have := (List.getElem?_eq_some_iff.1 hj).1; have := Hcl.out; omega
    obtain rfl : j = 0 := by omega
    rw [Hcs.out, List.getElem?_replicate] at hj
    have hv : Value.int .i64 x = v := by
      split at hj
      · injection hj
      · cases hj
    subst hv
    exact HC2.out
  case c3 => rw [repRow_len (Nat.zero_le _), Hcl.out]; omega
  case c4 => intro v hv; rw [Hcs.out] at hv; rw [(List.mem_replicate.1 hv).2]; rfl
  case c5 => rw [Hhh.out]; exact Nat.le_refl _
  intro w3 HG3 hb3
  have HG4 : Hid (w3.heap[hh]? = some (.cells (repRow x k m0).toArray 2 (0, 0))) := by
    have := HG3.out
    rw [Hcs.out, repRow_splice (by omega), Nat.zero_add] at this
    exact this
  have HB3 := Lib.hid hb3
  rw [Hcl.out]
  clear HG3 hb3
  go_wp2
  go_loopw [8] (fun i wr => ∃ j : Nat, i = .int .i64 (j : Int) ∧ j ≤ k ∧ (0 < k → 0 < j) ∧ Hid (wr.heap[hh]? = some (.cells (repRow x k j).toArray 2 (0, 0))) ∧ Below w1.heap.size w1 wr) (fun i _ => k - (intOf i).toNat)
  case atStart => exact ⟨m0, rfl, hm1.2.1, hm1.2.2, HG4, HB3.out⟩
  case round =>
    obtain ⟨j, rfl, hj, hj0, HGj, hbj⟩ := hrel
    have HBj := Lib.hid hbj
    clear hbj
    by_cases hlt : j < k
    · have hlt' : (j : Int) < (k : Int) := by omega
      obtain ⟨m, Hm⟩ : ∃ m, Hid (m = min j (k - j)) := ⟨_, rfl⟩
      obtain ⟨ds, Hds⟩ : ∃ ds : List Value, Hid (ds = List.replicate m (.int .i64 x)) := ⟨_, rfl⟩
      have hm2 : m ≤ j ∧ j + m ≤ k ∧ 0 < m := by rw [Hm.out]; omega
      have Hdl : Hid (ds.length = m) := by show _ = _; rw [Hds.out, List.length_replicate]
      have hkj : ¬ k = j := by omega
      have hsrc : ∀ (i : Nat) (v : Value), ds[i]? = some v → wr.cell? ((⟨hh, 0, none⟩ : Addr).add i) = some v := by
        intro i v hi
        have him : i < m := by have := (List.getElem?_eq_some_iff.1 hi).1; have := Hdl.out; omega
        rw [Hds.out, List.getElem?_replicate, if_pos him] at hi
        injection hi with hi
        subst hi
        rw [Addr.add_lit]
        exact cell_of_row wr hh (0 + i) _ 2 (0, 0) HGj.out |>.trans (by rw [Nat.zero_add]; simpa using repRow_get (x := x) (k := k) (j := j) (i := i) (by omega))
      have Hsrc := Lib.hid hsrc
      have hone : ∀ v ∈ ds, v.oneCell' = true := by intro v hv; rw [Hds.out] at hv; rw [(List.mem_replicate.1 hv).2]; rfl
      have Hone := Lib.hid hone
      have hfit : j + ds.length ≤ (repRow x k j).length := by rw [repRow_len hj, Hdl.out]; omega
      have Hfit := Lib.hid hfit
      have hmn : ds.length = Nat.min j (k - j) := by rw [Hdl.out, Hm.out]
      have Hmn := Lib.hid hmn
      clear hsrc hone hfit hmn
      go_wp2
      go_region_law (refine step_copy_splice rfl (.tmp 41) (.tmp 44) 29 29 rfl 2 rfl (by kernel_rfl) (some ⟨hh, j, none⟩) (some ⟨hh, 0, none⟩) (k - j) (k - j) j k (by simp [Act.eval, Act.put]) (by simp [Act.eval, Act.put]) hh j (repRow x k j) 2 HGj.out ds Hmn.out (fun _ => ⟨rfl, _, rfl, Hsrc.out⟩) Hfit.out Hone.out w1.heap.size w1 HBj.out.drew Hge.out ?_; intro w4 hg4 hb4; have Hb4 := Lib.hid hb4; clear hb4; rw [Hdl.out])
      have HG5 : Hid (w4.heap[hh]? = some (.cells (repRow x k (j + m)).toArray 2 (0, 0))) := by
        have := hg4.out
        rw [Hds.out, repRow_splice hm2.2.1] at this
        exact this
      clear hg4
      have hwr : IntKind.i64.wrap ((j : Int) + (m : Int)) = ((j + m : Nat) : Int) := by rw [IntKind.wrap_i64]; omega
      go_simp
      go_wp2
      go_roundw
      case rel => exact ⟨j + m, by go_num, hm2.2.1, fun _ => by omega, HG5, Hb4.out⟩
      case measure => simp only [intOf]; omega
    · obtain rfl : j = k := by omega
      have HO := Lib.hid (heap_own HGj.out (repRow_len (Nat.le_refl _)) (base := w1.heap.size) (by rw [Hhh.out]; exact Nat.le_refl _) (by unfold maxLen; omega))
      rw [repRow_full] at HO
      go_wp2
      go_ret
      exact ⟨_, rfl, HO.out, HBj.out⟩
theorem return_none {s : Sd} {n k : Int} (h : (validB s && inB n 1 64 && inB k 0 64) = false) : returnSeed s n k = none := by simp [returnSeed, h]
theorem return_some {s : Sd} {n k : Int} (hv : validB s = true) (hn : inB n 1 64 = true) (hk : inB k 0 64 = true) : returnSeed s n k = drawAll (List.replicate k.toNat n) s := by simp [returnSeed, hv, hn, hk]
set_option maxRecDepth 100000 in
set_option maxHeartbeats 1000000 in
theorem specReturn_any : FnSNN_SLB 12 returnSeed := by
  intro k0 a0 b0 n k w hs hn hk
  have hz0 : ((w.alloc (.cells #[.int .i64 k0, .int .u64 a0, .int .u64 b0] 26)).alloc (.cells #[.int .i64 0, .int .u64 0, .int .u64 0] 26)).heap.size = w.heap.size + 2 := by rw [size_alloc', size_alloc']
  have hg : SeedAt ((w.alloc (.cells #[.int .i64 k0, .int .u64 a0, .int .u64 b0] 26)).alloc (.cells #[.int .i64 0, .int .u64 0, .int .u64 0] 26)) w.heap.size ⟨k0, a0, b0⟩ := (SeedAt.new w k0 a0 b0).alloc _
  have hz : SeedAt ((w.alloc (.cells #[.int .i64 k0, .int .u64 a0, .int .u64 b0] 26)).alloc (.cells #[.int .i64 0, .int .u64 0, .int .u64 0] 26)) (w.heap.size + 1) ⟨0, 0, 0⟩ := SeedAt.new1 w _ 0 0 0
  have hBl : Below w.heap.size w ((w.alloc (.cells #[.int .i64 k0, .int .u64 a0, .int .u64 b0] 26)).alloc (.cells #[.int .i64 0, .int .u64 0, .int .u64 0] 26)) := ((Below.refl _ _).alloc (Nat.le_refl _) _).alloc (by rw [size_alloc']; omega) _
  go_enter Try.func12, Try.ntmps12
  go_wp2_with fail
  refine (specIs_any ⟨k0, a0, b0⟩ _ _ hs hg).mono ?_
  rintro e w1 ⟨rfl, rfl⟩
  generalize (w.alloc (.cells #[.int .i64 k0, .int .u64 a0, .int .u64 b0] 26)).alloc (.cells #[.int .i64 0, .int .u64 0, .int .u64 0] 26) = w1 at hz0 hg hz hBl ⊢
  obtain ⟨s, hsd⟩ : ∃ s : Sd, s = ⟨k0, a0, b0⟩ := ⟨_, rfl⟩
  rw [← hsd] at hs hg ⊢
  have HB := Lib.hid hBl; have Hz := Lib.hid hz; have Hg := Lib.hid hg; have Hk : Hid s.ok := hs
  have Hz0 := Lib.hid hz0
  have Hs0 : Hid ((⟨k0, a0, b0⟩ : Sd) = s) := hsd.symm
  clear hBl hz hg hs hz0 hsd
  have u0 := Hz.out.c0
  have u1 := Hz.out.c1
  have u2 := Hz.out.c2
  have v0 := Hz.out.fz 0
  have v1 := Hz.out.fz 1
  have v2 := Hz.out.fz 2
  simp only at u0 u1 u2
  cases hv : validB s with
  | false =>
    have Hn : Hid (returnSeed s n k = none) := return_none (by rw [hv]; rfl)
    go_wp2
    (try simp only [Exit.inBlock, Exit.then])
    refine bodyPost_ret (results_s3 rfl _ rfl (Hz.out.set3 0 0 0)) rfl ?_
    exact gaveSLB_none (by rw [Hs0.out]; exact Hn.out) (below_set3 HB.out (by omega) _ _ _)
  | true =>
    have Hv := Lib.hid hv
    clear hv
    go_wp2_with fail
    refine (items_any _ _).mono ?_
    rintro e w2 ⟨rfl, rfl⟩
    cases hi : inB n 1 64 with
    | false =>
      have Hn : Hid (returnSeed s n k = none) := return_none (by rw [Hv.out, hi]; rfl)
      clear hi
      go_wp2
      (try simp only [Exit.inBlock, Exit.then])
      refine bodyPost_ret (results_s3 rfl _ rfl (Hz.out.set3 0 0 0)) rfl ?_
      exact gaveSLB_none (by rw [Hs0.out]; exact Hn.out) (below_set3 HB.out (by omega) _ _ _)
    | true =>
      have hnb := inB_true hi
      have Hi := Lib.hid hi
      clear hi
      go_wp2_with fail
      refine (l00In_any _ _ _ _).mono ?_
      rintro e w2 ⟨rfl, rfl⟩
      cases hik : inB k 0 64 with
      | false =>
        have Hn : Hid (returnSeed s n k = none) := return_none (by rw [Hv.out, Hi.out, hik]; rfl)
        clear hik
        go_wp2
        (try simp only [Exit.inBlock, Exit.then])
        refine bodyPost_ret (results_s3 rfl _ rfl (Hz.out.set3 0 0 0)) rfl ?_
        exact gaveSLB_none (by rw [Hs0.out]; exact Hn.out) (below_set3 HB.out (by omega) _ _ _)
      | true =>
        have hkb := inB_true hik
        obtain ⟨kk, rfl⟩ : ∃ kk : Nat, k = (kk : Int) := ⟨k.toNat, by omega⟩
        have hr := return_some Hv.out Hi.out hik
        rw [Int.toNat_natCast] at hr
        have Hr : Hid (returnSeed s n (kk : Int) = withPre [] (drawAll (List.replicate kk n) s)) := by show _ = _; rw [withPre_nil]; exact hr
        have hsz1 : w.heap.size + 2 ≤ w1.heap.size := by rw [Hz0.out]; omega
        clear hik hr hn hk u0 u1 u2 v0 v1 v2
        go_wp2
        go_loopw [2, 9] (fun i v wr => ∃ (m : Nat) (ol : List Int) (s' : Sd), m ≤ kk ∧ i = .int .i64 (m : Int) ∧ Hid (returnSeed s n (kk : Int) = withPre ol (drawAll (List.replicate m n) s')) ∧ ol.length + m = kk ∧ Hid s'.ok ∧ Hid (validB s' = true) ∧ Own wr w1.heap.size 2 v (i64s ol) ∧ SeedAt wr w.heap.size s' ∧ SeedAt wr (w.heap.size + 1) Sd.zero ∧ w1.heap.size ≤ wr.heap.size ∧ Below w.heap.size w wr) (fun i _ _ => (intOf i).toNat)
        case atStart => exact ⟨kk, [], s, Nat.le_refl _, rfl, Hr, by simp, Hk, Hv, own_newI w1 (Nat.le_refl _), Hg.out.alloc _, Hz.out.alloc _, by rw [size_alloc']; omega, HB.out.alloc HB.out.size _⟩
        case round =>
          obtain ⟨m, ol, s', hm, rfl, Hsg, hol, Hok', Hv', hO, hg', hz', hle', hbel⟩ := hrel
          have HO := Lib.hid hO; have HB' := Lib.hid hbel; have HZ' := Lib.hid hz'; have HG' := Lib.hid hg'
          clear hO hbel hz' hg'
          cases m with
          | zero =>
            have hfin : Hid (returnSeed s n (kk : Int) = some (s', ol)) := by show _ = _; rw [Hsg.out]; simp [withPre, drawAll]
            have c0 := HG'.out.c0
            have c1 := HG'.out.c1
            have c2 := HG'.out.c2
            have u0 := HZ'.out.c0
            have u1 := HZ'.out.c1
            have u2 := HZ'.out.c2
            have v0 := HZ'.out.fz 0
            have v1 := HZ'.out.fz 1
            have v2 := HZ'.out.fz 2
            obtain ⟨k9, a9, b9⟩ := s'
            clear Hsg
            go_wp2
            (try simp only [Exit.inBlock, Exit.then])
            refine bodyPost_ret (results_s3 (s := ⟨k9, a9, b9⟩) (g := w.heap.size + 1) rfl _ rfl (by exact HZ'.out.set3 k9 a9 b9)) rfl ?_
            exact gaveSLB_some (s := ⟨k9, a9, b9⟩) (by rw [Hs0.out]; exact hfin.out) ((HO.out.kept (grown_set3 _ _ _ _ _) (.inr (fun e => by have := HO.out.lt _ e; omega))).base_le (by omega)) (below_set3 HB'.out (by omega) _ _ _)
          | succ m =>
            have hpos : (0 : Int) < ((m + 1 : Nat) : Int) := by omega
            have Hbt : Hid (belowS s' n = tried n 64 s') := belowS_valid Hv'.out (by omega)
            go_wp2_with fail
            refine (specTried2 s' w.heap.size _ _ Hok'.out (by omega) HG'.out).mono ?_
            rintro e w3 ⟨hor, hgr⟩
            have HB3 := Lib.hid (HB'.out.grown hgr HB'.out.size (fun _ h => by cases h; exact Nat.le_refl _))
            have HZ3 := Lib.hid (HZ'.out.grown hgr (by simp))
            have HO3 := Lib.hid (HO.out.kept hgr (.inr (fun e => by have := HO.out.lt _ e; omega)))
            have hle3 : w1.heap.size ≤ w3.heap.size := Nat.le_trans hle' hgr.size
            clear hgr
            rcases hor with ⟨ht, y, rfl⟩ | ⟨t, p, ht, rfl, hg3⟩
            · have Hn : Hid (returnSeed s n (kk : Int) = none) := by show _ = _; rw [Hsg.out, List.replicate_succ]; exact withPre_none (Hbt.out.trans ht)
              have u0 := HZ3.out.c0
              have u1 := HZ3.out.c1
              have u2 := HZ3.out.c2
              have v0 := HZ3.out.fz 0
              have v1 := HZ3.out.fz 1
              have v2 := HZ3.out.fz 2
              clear ht Hsg
              go_wp2
              (try simp only [Exit.inBlock, Exit.then])
              refine bodyPost_ret (results_s3 (s := ⟨0, 0, 0⟩) (g := w.heap.size + 1) rfl _ rfl (by exact HZ3.out.set3 0 0 0)) rfl ?_
              exact gaveSLB_none (by rw [Hs0.out]; exact Hn.out) (below_set3 HB3.out (by omega) _ _ _)
            · have Htr : Hid (returnSeed s n (kk : Int) = withPre (ol ++ [p]) (drawAll (List.replicate m n) t)) := by show _ = _; rw [Hsg.out, List.replicate_succ]; exact withPre_some (Hbt.out.trans ht)
              have Hto := Lib.hid (tried_ok Hok'.out ht)
              have Htv : Hid (validB t = true) := (tried_valid Hok'.out ht).trans Hv'.out
              have HG3 := Lib.hid hg3
              clear ht hg3 Hsg
              go_wp2_with (at_builtin; go_must (refine emitI w3 rfl _ _ rfl w1.heap.size u9 ol rfl HO3.out p rfl ?c1 hle3 ?_))
              case c1 => omega
              intro v' w4 hO' hgr hor
              have hge : ∀ j, u9.ownBlock = some j → w1.heap.size ≤ j := fun j e => (HO3.out.lt j e).1
              have HO4 := Lib.hid hO'
              have HB4 := Lib.hid (HB3.out.grown hgr HB3.out.size (fun j e => by have := hge j e; omega))
              have HG4 := Lib.hid (HG3.out.grown hgr (fun e => by have := hge _ e.symm; omega))
              have HZ4 := Lib.hid (HZ3.out.grown hgr (fun e => by have := hge _ e.symm; omega))
              have hle4 : w1.heap.size ≤ w4.heap.size := Nat.le_trans hle3 hgr.size
              clear hO' hgr hor hge
              go_wp2
              go_roundw
              case rel => exact ⟨m, ol ++ [p], t, by omega, by go_num, Htr, by rw [List.length_append, List.length_singleton]; omega, Hto, Htv, HO4.out, HG4.out, HZ4.out, hle4, HB4.out⟩
              case measure => simp only [intOf]; omega
set_option maxRecDepth 100000 in
set_option maxHeartbeats 1000000 in
theorem implReturn_any : FnSNN_SLB 9 returnSeed := by
  intro k0 a0 b0 n k w hs hn hk
  have hz0 : ((w.alloc (.cells #[.int .i64 k0, .int .u64 a0, .int .u64 b0] 26)).alloc (.cells #[.int .i64 0, .int .u64 0, .int .u64 0] 26)).heap.size = w.heap.size + 2 := by rw [size_alloc', size_alloc']
  have hg : SeedAt ((w.alloc (.cells #[.int .i64 k0, .int .u64 a0, .int .u64 b0] 26)).alloc (.cells #[.int .i64 0, .int .u64 0, .int .u64 0] 26)) w.heap.size ⟨k0, a0, b0⟩ := (SeedAt.new w k0 a0 b0).alloc _
  have hz : SeedAt ((w.alloc (.cells #[.int .i64 k0, .int .u64 a0, .int .u64 b0] 26)).alloc (.cells #[.int .i64 0, .int .u64 0, .int .u64 0] 26)) (w.heap.size + 1) ⟨0, 0, 0⟩ := SeedAt.new1 w _ 0 0 0
  have hBl : Below w.heap.size w ((w.alloc (.cells #[.int .i64 k0, .int .u64 a0, .int .u64 b0] 26)).alloc (.cells #[.int .i64 0, .int .u64 0, .int .u64 0] 26)) := ((Below.refl _ _).alloc (Nat.le_refl _) _).alloc (by rw [size_alloc']; omega) _
  have Hk : Hid (Sd.ok ⟨k0, a0, b0⟩) := hs
  clear hs
  go_enter Try.func9, Try.ntmps9
  go_wp2_with fail
  refine (isPicks_any _ _).mono ?_
  rintro e w1 ⟨rfl, rfl⟩
  generalize (w.alloc (.cells #[.int .i64 k0, .int .u64 a0, .int .u64 b0] 26)).alloc (.cells #[.int .i64 0, .int .u64 0, .int .u64 0] 26) = w1 at hz0 hg hz hBl ⊢
  have HB := Lib.hid hBl; have Hz := Lib.hid hz; have Hg := Lib.hid hg
  have hsz1 : w.heap.size + 2 ≤ w1.heap.size := by omega
  clear hBl hz hg hz0
  have hle1 : w.heap.size ≤ w1.heap.size := HB.out.size
  have u0 := Hz.out.c0
  have u1 := Hz.out.c1
  have u2 := Hz.out.c2
  have v0 := Hz.out.fz 0
  have v1 := Hz.out.fz 1
  have v2 := Hz.out.fz 2
  simp only at u0 u1 u2
  cases hi : inB n 1 64 with
  | false =>
    have Hn : Hid (returnSeed ⟨k0, a0, b0⟩ n k = none) := return_none (by rw [hi]; simp)
    clear hi
    go_wp2
    (try simp only [Exit.inBlock, Exit.then])
    refine bodyPost_ret (results_s3 rfl _ rfl (Hz.out.set3 0 0 0)) rfl ?_
    exact gaveSLB_none Hn.out (below_set3 HB.out (by omega) _ _ _)
  | true =>
    have hnb := inB_true hi
    have Hi := Lib.hid hi
    clear hi
    go_wp2_with fail
    refine (within_any _ _ _ _).mono ?_
    rintro e w2 ⟨rfl, rfl⟩
    cases hik : inB k 0 64 with
    | false =>
      have Hn : Hid (returnSeed ⟨k0, a0, b0⟩ n k = none) := return_none (by rw [hik]; simp)
      clear hik
      go_wp2
      (try simp only [Exit.inBlock, Exit.then])
      refine bodyPost_ret (results_s3 rfl _ rfl (Hz.out.set3 0 0 0)) rfl ?_
      exact gaveSLB_none Hn.out (below_set3 HB.out (by omega) _ _ _)
    | true =>
      have hkb := inB_true hik
      obtain ⟨kk, rfl⟩ : ∃ kk : Nat, k = (kk : Int) := ⟨k.toNat, by omega⟩
      have hkk : kk ≤ 64 := by omega
      obtain ⟨ls, Hls⟩ : ∃ ls, Hid (ls = List.replicate kk n) := ⟨_, rfl⟩
      have Hr : Hid (returnSeed ⟨k0, a0, b0⟩ n (kk : Int) = belowAllS ⟨k0, a0, b0⟩ ls) := by
        show _ = _
        rw [Hls.out]
        unfold returnSeed belowAllS
        rw [Hi.out, hik, Int.toNat_natCast, Bool.and_true, Bool.and_true]
      have hll : ls.length ≤ 100000 := by rw [Hls.out, List.length_replicate]; omega
      have hfit : Fit ls := by
        rw [Hls.out]
        intro x hx
        have := (List.mem_replicate.1 hx).2
        omega
      have Hll := Lib.hid hll; have Hfit := Lib.hid hfit
      have C1 : Hid ((w1.drew.alloc (.cells #[.int .i64 n] 2)).cell? ⟨w1.heap.size, 0, none⟩ = some (.int .i64 n)) := cell_of_row _ _ 0 _ 2 (0, 0) (heap_alloc_new w1.drew _)
      have Hlt : Hid (w1.heap.size < (w1.drew.alloc (.cells #[.int .i64 n] 2)).heap.size) := by show _ < _; rw [size_alloc']; exact Nat.lt_succ_self _
      have HgA := Lib.hid (Hg.out.drew.alloc (.cells #[.int .i64 n] 2))
      have HzA := Lib.hid (Hz.out.drew.alloc (.cells #[.int .i64 n] 2))
      have HBA := Lib.hid (HB.out.drew.alloc hle1 (.cells #[.int .i64 n] 2))
      have hleA : w.heap.size ≤ (w1.drew.alloc (.cells #[.int .i64 n] 2)).heap.size := HBA.out.size
      have HleA := Lib.hid hleA
      have c0 := Hg.out.c0
      have c1 := Hg.out.c1
      have c2 := Hg.out.c2
      simp only at c0 c1 c2
      have hy := Hg.out.alloc (.cells #[.int .i64 n] 2)
      have r0 := hy.c0
      have r1 := hy.c1
      have r2 := hy.c2
      simp only at r0 r1 r2
      clear hik hn hk u0 u1 u2 v0 v1 v2 hll hfit hleA hy
      go_wp2
      go_region_with (first
        | (go_at_call 25
           refine (repeat_any w1.heap.size n kk _ Hlt.out C1.out hkk).mono ?_
           rintro e w4 ⟨v, rfl, ho, hb⟩
           rw [← Hls.out] at ho
           obtain ⟨A1, d1, rfl, hcap1⟩ := ho.shapeI
           have Hg4 := Lib.hid (HgA.out.below hb HgA.out.lt)
           have Hz4 := Lib.hid (HzA.out.below hb HzA.out.lt)
           have HB4 := Lib.hid (HBA.out.trans (hb.mono HleA.out))
           have HO4 := Lib.hid ho.rdI
           have hle4 : w.heap.size ≤ w4.heap.size := HB4.out.size
           have x0 := Hg4.out.c0
           have x1 := Hg4.out.c1
           have x2 := Hg4.out.c2
           simp only at x0 x1 x2
           clear ho hb hcap1)
        | (go_at_call 21
           refine (implBelowAll_any k0 a0 b0 A1 _ d1 _ ls _ Hk.out HO4.out (Nat.le_refl _) Hll.out Hfit.out).mono ?_
           rintro e w5 ⟨k1, a1, b1, v, ok, rfl, hok, hsd, ho, hb⟩
           have hz5 := Hz4.out.below hb Hz4.out.lt
           have f0 := hz5.fz 0
           have f1 := hz5.fz 1
           have f2 := hz5.fz 2
           have y0 := hz5.c0
           have y1 := hz5.c1
           have y2 := hz5.c2
           simp only at y0 y1 y2
           have HZ6 := Lib.hid (hz5.set3 k1 a1 b1)
           have HB6 := Lib.hid (below_set3 (HB4.out.trans (hb.mono hle4)) (Nat.le_succ _) k1 a1 b1)
           have HO6 := Lib.hid (ho.kept (grown_set3 w5 (w.heap.size + 1) k1 a1 b1) (.inr (fun e => by have := (ho.lt _ e).1; have := Hz4.out.lt; omega)))
           clear ho hb hz5))
      all_goals
        clear x0 x1 x2 y0 y1 y2 f0 f1 f2 c0 c1 c2 r0 r1 r2
        generalize (((w5.setCell ⟨w.heap.size + 1, 0, none⟩ (.int .i64 k1)).setCell ⟨w.heap.size + 1, 1, none⟩ (.int .u64 a1)).setCell ⟨w.heap.size + 1, 2, none⟩ (.int .u64 b1)) = w6 at HZ6 HB6 HO6 ⊢
        go_wp2
        (try simp only [Exit.inBlock, Exit.then])
        refine bodyPost_ret (results_s3 (s := ⟨k1, a1, b1⟩) (g := w.heap.size + 1) rfl _ rfl (by exact HZ6.out)) rfl ?_
        rw [Hr.out]
        exact ⟨k1, a1, b1, v, ok, rfl, hok, hsd, HO6.out.base_le hle4, HB6.out⟩
end Go.Proofs.Ytnaolelijifniaa
