/- Aliases: the helpers of their statements, and whether one is valid. -/
import Derived.Test.YtgemcjcghnpmdaaShapesF
import Derived.Test.YtgemcjcghnpmdaaPart
namespace Go.Proofs.Ytgemcjcghnpmdaa
open Go.RowKit
set_option maxRecDepth 100000
theorem size_alloc'' (w : World) (o : Obj) : (w.alloc o).heap.size = w.heap.size + 1 := by
  show (w.heap.push o).size = _
  simp
theorem grown_set1 (w : World) (g i : Nat) (u : Value) : w.grownBy (w.setCell ⟨g, i, none⟩ u) (some g) :=
  ⟨rfl, rfl, rfl, by simp [World.setCell], fun k _ hk => Below.heap_setCell w _ u k (fun e => hk (by rw [e]))⟩
/-- Block g holds two slices. -/
def AlAt (w : World) (g : Nat) (T : TypeId) (v v' : Value) : Prop := w.heap[g]? = some (.cells #[v, v'] T (0, 0))
section
variable {w w' : World} {g : Nat} {T : TypeId} {v v' : Value}
theorem AlAt.lt (h : AlAt w g T v v') : g < w.heap.size := (Array.getElem?_eq_some_iff.1 h).1
theorem AlAt.c0 (h : AlAt w g T v v') : w.cell? ⟨g, 0, none⟩ = some v := cell_of_row w g 0 _ T (0, 0) h
theorem AlAt.c1 (h : AlAt w g T v v') : w.cell? ⟨g, 1, none⟩ = some v' := cell_of_row w g 1 _ T (0, 0) h
theorem AlAt.fz (h : AlAt w g T v v') (i : Nat) : w.frozen? ⟨g, i, none⟩ = false := by
  unfold AlAt at h
  simp [World.frozen?, h]
theorem AlAt.below {B : Nat} (h : AlAt w g T v v') (hb : Below B w w') (hg : g < B) : AlAt w' g T v v' := (hb.block g hg).trans h
theorem AlAt.grown {row : Option Nat} (h : AlAt w g T v v') (hb : w.grownBy w' row) (hg : some g ≠ row) : AlAt w' g T v v' := (hb.block g h.lt hg).trans h
theorem AlAt.drewN (h : AlAt w g T v v') (n : Nat) : AlAt (w.drewN n) g T v v' := h
theorem AlAt.drew (h : AlAt w g T v v') : AlAt w.drew g T v v' := h
theorem AlAt.alloc (h : AlAt w g T v v') (o : Obj) : AlAt (w.alloc o) g T v v' := (Below.heap_alloc w o g h.lt).trans h
theorem AlAt.new (w : World) (T : TypeId) (v v' : Value) : AlAt (w.alloc (.cells #[v, v'] T)) w.heap.size T v v' := heap_alloc_new w _
theorem AlAt.far (h : AlAt w g T v v') {p : Addr} (hp : g ≠ p.block) (u : Value) : AlAt (w.setCell p u) g T v v' := (Below.heap_setCell w p u g hp).trans h
theorem AlAt.set0 (h : AlAt w g T v v') (u : Value) : AlAt (w.setCell ⟨g, 0, none⟩ u) g T u v' := by
  unfold AlAt at h ⊢
  simp [World.setCell, Array.getElem?_modify, h]
theorem AlAt.set1 (h : AlAt w g T v v') (u : Value) : AlAt (w.setCell ⟨g, 1, none⟩ u) g T v u := by
  unfold AlAt at h ⊢
  simp [World.setCell, Array.getElem?_modify, h]
end
theorem run_loadAl {w : World} {g : Nat} {A A' : Option Addr} {n c n' c' : Nat} (h : AlAt w g 33 (.slice A n c) (.slice A' n' c')) : (loadVar 33 ⟨g, 0, none⟩).run Try.prog w = .ok (.agg #[.slice A n c, .slice A' n' c']) w :=
  run_loadVar_row w g 33 33 _ (0, 0) _ h Try.underlying33 rfl (by kernel_rfl)
theorem results_al {fn : Func} {t : Tmp} {w : World} {g : Nat} {A A' : Option Addr} {n c n' c' : Nat} (h : fn.results = #[.cell t 33]) (tmps : Array Value) (hp : tmps.getD t undef = .pointer (some ⟨g, 0, none⟩)) (hs : AlAt w g 33 (.slice A n c) (.slice A' n' c')) :
    (results fn tmps).run Try.prog w = .ok (.agg #[.slice A n c, .slice A' n' c']) w := by
  have hp' := hp
  simp only [Array.getD_eq_getD_getElem?] at hp'
  simp [results, h, hp', asAddr, run_loadAl hs]
/-- Whether an alias is valid. -/
def aliasB (xs : List Nat) (ys : List Int) : Bool :=
  inB xs.length 1 64 && decide (ys.length = xs.length) && (xs.all partB && ys.all fun y => inB y 0 ((xs.length : Int) - 1))
theorem aliasB_size {xs : List Nat} {ys : List Int} (h : inB xs.length 1 64 = false) : aliasB xs ys = false := by simp [aliasB, h]
theorem aliasB_len {xs : List Nat} {ys : List Int} (h : ¬ ys.length = xs.length) : aliasB xs ys = false := by simp [aliasB, h]
theorem aliasB_part {xs : List Nat} {ys : List Int} {k x : Nat} (hx : xs[k]? = some x) (h : partB x = false) : aliasB xs ys = false := by
  have : xs.all partB = false := by rw [List.all_eq_false]; exact ⟨x, List.mem_of_getElem? hx, by simp [h]⟩
  simp [aliasB, this]
theorem aliasB_other {xs : List Nat} {ys : List Int} {k : Nat} {y : Int} (hy : ys[k]? = some y) (h : inB y 0 ((xs.length : Int) - 1) = false) : aliasB xs ys = false := by
  have : (ys.all fun y => inB y 0 ((xs.length : Int) - 1)) = false := by rw [List.all_eq_false]; exact ⟨y, List.mem_of_getElem? hy, by simp [h]⟩
  simp [aliasB, this]
theorem aliasB_true {xs : List Nat} {ys : List Int} (h1 : inB xs.length 1 64 = true) (h2 : ys.length = xs.length) (h3 : ∀ (j x : Nat), xs[j]? = some x → partB x = true) (h4 : ∀ (j : Nat) (y : Int), ys[j]? = some y → inB y 0 ((xs.length : Int) - 1) = true) : aliasB xs ys = true := by
  have e1 : xs.all partB = true := by rw [List.all_eq_true]; intro x hx; obtain ⟨j, hj⟩ := List.mem_iff_getElem?.1 hx; exact h3 j x hj
  have e2 : (ys.all fun y => inB y 0 ((xs.length : Int) - 1)) = true := by rw [List.all_eq_true]; intro y hy; obtain ⟨j, hj⟩ := List.mem_iff_getElem?.1 hy; exact h4 j y hj
  unfold aliasB
  rw [h1, e1, e2, h2]
  simp
set_option maxHeartbeats 1000000 in
theorem implAlias_any (A : Option Addr) (n c : Nat) (A' : Option Addr) (n' c' B : Nat) (xs : List Nat) (ys : List Int) (w : World) (h : Rd w B A n (f32s xs)) (h' : Rd w B A' n' (i64s ys)) (hB : B ≤ w.heap.size) (hn : n ≤ 1048576) (hn' : n' ≤ 1048576) :
    Calls Try.prog 10 #[.agg #[.slice A n c, .slice A' n' c']] w fun e w' => e = .returned (.bool (aliasB xs ys)) ∧ Below w.heap.size w w' := by
  have hl := h.lenF
  obtain rfl : xs.length = n := hl.out
  have hl' := h'.lenI
  obtain rfl : ys.length = n' := hl'.out
  clear hl hl'
  have hb0 : Below w.heap.size w (w.alloc (.cells #[.slice A xs.length c, .slice A' ys.length c'] 33)) := (Below.refl _ _).alloc (Nat.le_refl _) _
  have h1 := AlAt.new w 33 (.slice A xs.length c) (.slice A' ys.length c')
  have HR := Lib.hid (h.below hb0 hB)
  have HR' := Lib.hid (h'.below hb0 hB)
  clear h h'
  go_enter Try.func10, Try.ntmps10
  go_wp2_with fail
  refine (isPicks_any _ _).mono ?_
  rintro e w1 ⟨rfl, rfl⟩
  generalize w.alloc (.cells #[.slice A xs.length c, .slice A' ys.length c'] 33) = w1 at hb0 h1 HR HR' ⊢
  have HB := Lib.hid hb0
  have c0 := h1.c0
  have c1 := h1.c1
  clear h1 hb0
  cases hin : inB (xs.length : Int) 1 64 with
  | false =>
    have Hn : Hid (aliasB xs ys = false) := aliasB_size hin
    clear hin
    go_wp2
    go_ret
    exact ⟨ret_bool Hn.out.symm, HB.out⟩
  | true =>
    have Hin := Lib.hid hin
    clear hin
    by_cases hlen : ys.length = xs.length
    · have hne : (((ys.length : Nat) : Int) != ((xs.length : Nat) : Int)) = false := by rw [hlen]; simp
      have Hlen := Lib.hid hlen
      clear hlen
      go_wp2
      go_loopw [22] (fun i wr => ∃ k : Nat, k ≤ xs.length ∧ i = .int .i64 k ∧ Hid (∀ (j x : Nat), j < k → xs[j]? = some x → partB x = true) ∧ Hid (∀ (j : Nat) (y : Int), j < k → ys[j]? = some y → inB y 0 ((xs.length : Int) - 1) = true) ∧ wr = w1) (fun i _ => xs.length - (intOf i).toNat)
      case atStart => exact ⟨0, Nat.zero_le _, rfl, fun j x hj => absurd hj (by omega), fun j x hj => absurd hj (by omega), rfl⟩
      case round =>
        obtain ⟨k, hk, rfl, hv, hv', rfl⟩ := hrel
        by_cases hlt : k < xs.length
        · obtain ⟨b, off, x, rfl, _, hx, hc⟩ := HR.out.atF hlt
          obtain ⟨b', off', y, rfl, _, hy, hc'⟩ := HR'.out.atI (k := k) (by rw [Hlen.out]; exact hlt)
          have hlt' : (k : Int) < (xs.length : Int) := by omega
          have hlt2 : (k : Int) < (ys.length : Int) := by rw [Hlen.out]; omega
          have h0 : (0 : Int) ≤ (k : Int) := by omega
          cases hp : partB x with
          | false =>
            have Hn : Hid (aliasB xs ys = false) := aliasB_part hx.out hp
            by_cases hge : ge0 x = true
            · have hle : le1 x = false := by simpa [partB, hge] using hp
              unfold ge0 at hge
              unfold le1 at hle
              clear hp
              go_wp2
              go_ret
              exact ⟨ret_bool Hn.out.symm, HB.out⟩
            · have hge' : ge0 x = false := by simpa using hge
              unfold ge0 at hge'
              clear hge hp
              go_wp2
              go_ret
              exact ⟨ret_bool Hn.out.symm, HB.out⟩
          | true =>
            have Hp := Lib.hid hp
            have hp' := hp
            unfold partB at hp'
            simp only [Bool.and_eq_true] at hp'
            obtain ⟨hge, hle⟩ := hp'
            unfold ge0 at hge
            unfold le1 at hle
            clear hp
            go_wp2_with fail
            clear hge hle
            refine (within_any _ _ _ _).mono ?_
            rintro e w2 ⟨rfl, rfl⟩
            cases hi : inB y 0 ((xs.length : Int) - 1) with
            | false =>
              have Hn : Hid (aliasB xs ys = false) := aliasB_other hy.out hi
              clear hi
              go_wp2
              go_ret
              exact ⟨ret_bool Hn.out.symm, HB.out⟩
            | true =>
              have Hi := Lib.hid hi
              clear hi
              have hvs : Hid (∀ (j x : Nat), j < k + 1 → xs[j]? = some x → partB x = true) := by
                intro j z hj hz
                by_cases hjk : j < k
                · exact hv.out j z hjk hz
                · obtain rfl : j = k := by omega
                  have := hx.out.symm.trans hz
                  injection this with this
                  rw [← this]; exact Hp.out
              have hvs' : Hid (∀ (j : Nat) (z : Int), j < k + 1 → ys[j]? = some z → inB z 0 ((xs.length : Int) - 1) = true) := by
                intro j z hj hz
                by_cases hjk : j < k
                · exact hv'.out j z hjk hz
                · obtain rfl : j = k := by omega
                  have := hy.out.symm.trans hz
                  injection this with this
                  rw [← this]; exact Hi.out
              go_wp2
              go_roundw
              case rel => exact ⟨k + 1, by omega, by go_num, hvs, hvs', trivial⟩
              case measure => simp only [intOf]; omega
        · have hall := aliasB_true Hin.out Hlen.out (fun j x hx => hv.out j x (by have := (List.getElem?_eq_some_iff.1 hx).1; omega) hx) (fun j y hy => hv'.out j y (by have := (List.getElem?_eq_some_iff.1 hy).1; have := Hlen.out; omega) hy)
          have Hall := Lib.hid hall
          clear hall
          go_wp2
          go_ret
          exact ⟨ret_bool Hall.out.symm, HB.out⟩
    · have hne : (((ys.length : Nat) : Int) != ((xs.length : Nat) : Int)) = true := by simp; omega
      have Hn : Hid (aliasB xs ys = false) := aliasB_len hlen
      clear hlen
      go_wp2
      go_ret
      exact ⟨ret_bool Hn.out.symm, HB.out⟩
set_option maxHeartbeats 1000000 in
theorem specIsAlias_any (g : Nat) (A : Option Addr) (n c : Nat) (A' : Option Addr) (n' c' B : Nat) (xs : List Nat) (ys : List Int) (w : World) (h : Rd w B A n (f32s xs)) (h' : Rd w B A' n' (i64s ys)) (hg : AlAt w g 33 (.slice A n c) (.slice A' n' c')) (hn : n ≤ 1048576) (hn' : n' ≤ 1048576) :
    Calls Try.prog 37 #[.pointer (some ⟨g, 0, none⟩)] w fun e w' => e = .returned (.bool (aliasB xs ys)) ∧ w' = w := by
  have hl := h.lenF
  obtain rfl : xs.length = n := hl.out
  have hl' := h'.lenI
  obtain rfl : ys.length = n' := hl'.out
  clear hl hl'
  have HR := Lib.hid h
  have HR' := Lib.hid h'
  clear h h'
  have c0 := hg.c0
  have c1 := hg.c1
  clear hg
  by_cases h1 : (xs.length : Int) < 1
  · have Hn : Hid (aliasB xs ys = false) := aliasB_size (inB_not (by omega))
    go_enter Try.func37, Try.ntmps37
    go_wp2
    go_ret
    exact ⟨ret_bool Hn.out.symm, rfl⟩
  by_cases h2 : (64 : Int) < (xs.length : Int)
  · have Hn : Hid (aliasB xs ys = false) := aliasB_size (inB_not (by omega))
    go_enter Try.func37, Try.ntmps37
    go_wp2
    go_ret
    exact ⟨ret_bool Hn.out.symm, rfl⟩
  have Hin : Hid (inB (xs.length : Int) 1 64 = true) := inB_mk (by omega)
  by_cases hlen : ys.length = xs.length
  · have hne : (((ys.length : Nat) : Int) != ((xs.length : Nat) : Int)) = false := by rw [hlen]; simp
    have Hlen := Lib.hid hlen
    clear hlen
    go_enter Try.func37, Try.ntmps37
    go_wp2
    go_loopw [30] (fun i wr => ∃ k : Nat, k ≤ xs.length ∧ i = .int .i64 k ∧ Hid (∀ (j x : Nat), j < k → xs[j]? = some x → partB x = true) ∧ Hid (∀ (j : Nat) (y : Int), j < k → ys[j]? = some y → inB y 0 ((xs.length : Int) - 1) = true) ∧ wr = w) (fun i _ => xs.length - (intOf i).toNat)
    case atStart => exact ⟨0, Nat.zero_le _, rfl, fun j x hj => absurd hj (by omega), fun j x hj => absurd hj (by omega), rfl⟩
    case round =>
      obtain ⟨k, hk, rfl, hv, hv', rfl⟩ := hrel
      by_cases hlt : k < xs.length
      · obtain ⟨b, off, x, rfl, _, hx, hc⟩ := HR.out.atF hlt
        obtain ⟨b', off', y, rfl, _, hy, hc'⟩ := HR'.out.atI (k := k) (by rw [Hlen.out]; exact hlt)
        have hlt' : (k : Int) < (xs.length : Int) := by omega
        have hlt2 : (k : Int) < (ys.length : Int) := by rw [Hlen.out]; omega
        have h0 : (0 : Int) ≤ (k : Int) := by omega
        go_wp2_with fail
        refine (specPart_any _ _).mono ?_
        rintro e w2 ⟨rfl, rfl⟩
        cases hp : partB x with
        | false =>
          have Hn : Hid (aliasB xs ys = false) := aliasB_part hx.out hp
          clear hp
          go_wp2
          go_ret
          exact ⟨ret_bool Hn.out.symm, rfl⟩
        | true =>
          have Hp := Lib.hid hp
          clear hp
          go_wp2_with fail
          refine (l00In_any _ _ _ _).mono ?_
          rintro e w2 ⟨rfl, rfl⟩
          cases hi : inB y 0 ((xs.length : Int) - 1) with
          | false =>
            have Hn : Hid (aliasB xs ys = false) := aliasB_other hy.out hi
            clear hi
            go_wp2
            go_ret
            exact ⟨ret_bool Hn.out.symm, rfl⟩
          | true =>
            have Hi := Lib.hid hi
            clear hi
            have hvs : Hid (∀ (j x : Nat), j < k + 1 → xs[j]? = some x → partB x = true) := by
              intro j z hj hz
              by_cases hjk : j < k
              · exact hv.out j z hjk hz
              · obtain rfl : j = k := by omega
                have := hx.out.symm.trans hz
                injection this with this
                rw [← this]; exact Hp.out
            have hvs' : Hid (∀ (j : Nat) (z : Int), j < k + 1 → ys[j]? = some z → inB z 0 ((xs.length : Int) - 1) = true) := by
              intro j z hj hz
              by_cases hjk : j < k
              · exact hv'.out j z hjk hz
              · obtain rfl : j = k := by omega
                have := hy.out.symm.trans hz
                injection this with this
                rw [← this]; exact Hi.out
            go_wp2
            go_roundw
            case rel => exact ⟨k + 1, by omega, by go_num, hvs, hvs', trivial⟩
            case measure => simp only [intOf]; omega
      · have hall := aliasB_true Hin.out Hlen.out (fun j x hx => hv.out j x (by have := (List.getElem?_eq_some_iff.1 hx).1; omega) hx) (fun j y hy => hv'.out j y (by have := (List.getElem?_eq_some_iff.1 hy).1; have := Hlen.out; omega) hy)
        have Hall := Lib.hid hall
        clear hall
        go_wp2
        go_ret
        exact ⟨ret_bool Hall.out.symm, rfl⟩
  · have hne : (((ys.length : Nat) : Int) != ((xs.length : Nat) : Int)) = true := by simp; omega
    have Hn : Hid (aliasB xs ys = false) := aliasB_len hlen
    clear hlen
    go_enter Try.func37, Try.ntmps37
    go_wp2
    go_ret
    exact ⟨ret_bool Hn.out.symm, rfl⟩
theorem specAlias_any (A : Option Addr) (n c : Nat) (A' : Option Addr) (n' c' B : Nat) (xs : List Nat) (ys : List Int) (w : World) (h : Rd w B A n (f32s xs)) (h' : Rd w B A' n' (i64s ys)) (hB : B ≤ w.heap.size) (hn : n ≤ 1048576) (hn' : n' ≤ 1048576) :
    Calls Try.prog 11 #[.agg #[.slice A n c, .slice A' n' c']] w fun e w' => e = .returned (.bool (aliasB xs ys)) ∧ Below w.heap.size w w' := by
  have hb0 : Below w.heap.size w (w.alloc (.cells #[.slice A n c, .slice A' n' c'] 33)) := (Below.refl _ _).alloc (Nat.le_refl _) _
  have h1 := AlAt.new w 33 (.slice A n c) (.slice A' n' c')
  have HR := Lib.hid (h.below hb0 hB)
  have HR' := Lib.hid (h'.below hb0 hB)
  have HB := Lib.hid hb0
  go_enter Try.func11, Try.ntmps11
  go_wp2_with fail
  refine (specIsAlias_any _ A n c A' n' c' B xs ys _ HR.out HR'.out h1 hn hn').mono ?_
  rintro e w2 ⟨rfl, rfl⟩
  clear hb0 h1 h h'
  go_wp2
  go_ret
  exact ⟨rfl, HB.out⟩
end Go.Proofs.Ytgemcjcghnpmdaa
