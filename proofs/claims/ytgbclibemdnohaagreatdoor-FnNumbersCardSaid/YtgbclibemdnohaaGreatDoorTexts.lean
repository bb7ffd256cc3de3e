/- Lists of numbers as texts, and back. -/
import Derived.Test.YtgbclibemdnohaaGreatDoorHexR
import Derived.Test.YtgbclibemdnohaaGreatDoorTextP
import Derived.Test.YtgbclibemdnohaaGreatDoorDraws
namespace Go.Proofs.YtgbclibemdnohaaGreatDoor
open Go.RowKit
set_option maxRecDepth 100000
def strs (xs : List ByteArray) : List Value := xs.map Value.string
@[simp] theorem strs_length (xs : List ByteArray) : (strs xs).length = xs.length := by simp [strs]
theorem strs_snoc (xs : List ByteArray) (x : ByteArray) : strs (xs ++ [x]) = strs xs ++ [.string x] := by simp [strs]
theorem strs_get {xs : List ByteArray} {j : Nat} {x : ByteArray} (h : xs[j]? = some x) : (strs xs)[j]? = some (.string x) := by
  simp [strs, List.getElem?_map, h]
theorem info_str : (Tryz.prog.info? 9).map (fun i => (i.zero, i.size, i.bytes)) = some (some (.string ByteArray.empty), 1, 16) := by kernel_rfl
/-- One string more behind an owned list of strings. -/
theorem emitS (w0 : World) {ops : Array Oper} {rest : List Oper} {o : Oper} {a : Act} {Q : Exit → Act → World → Prop} (hgd : o.guard = none) (s x : Operand)
    (ho : o.op = .call { callee := .builtin .append, args := #[s, x], argTypes := #[58, 58] })
    (base : Nat) (v : Value) (xs : List ByteArray) (hs : a.eval s = v) (hown : Own w0 base 9 v (strs xs)) (u : ByteArray) (hx : a.eval x = .slice (some ⟨w0.heap.size, 0, none⟩) 1 1)
    (h63 : xs.length ≤ 2000000) (hbase : base ≤ w0.heap.size)
    (h : ∀ v' w', Own w' base 9 v' (strs (xs ++ [u])) → w0.grownBy w' v.ownBlock → (v'.ownBlock = v.ownBlock ∨ ∃ k, v'.ownBlock = some k ∧ w0.heap.size ≤ k) → wpList Tryz.prog ops Q rest (a.put o.dst v') w') : wpList Tryz.prog ops Q (o :: rest) a (w0.alloc (.cells #[.string u] 9)) := by
  obtain ⟨i0, hi0, hz0, hz1, hz2⟩ := info_parts info_str
  have hown' : w0.ownsRow base 9 1 v xs.length (strs xs) := by have := hown; unfold Own at this; rwa [strs_length] at this
  obtain ⟨v', w', hrun, h2, h3, _, h5⟩ := run_append_own_at (P := Tryz.prog) (w0.alloc (.cells #[.string u] 9)) base 58 o.type 9 i0 (.string ByteArray.empty) 1 16 Tryz.underlying58 hi0 hz0 hz1 hz2 rfl (by decide) v xs.length (strs xs) (hown'.alloc _) ⟨w0.heap.size, 0, none⟩ 1 1 [.string u] rfl (one_cell _ _ _) (one_one _ rfl) (by unfold maxLen; omega) (by omega) (by simp; omega)
  refine wpList_plain hgd fun _ hK => ?_
  unfold Oper.wp execOp
  simp only [ho, resolve, invoke, builtin, Sem.run_bind, Sem.run_pure, Result.andThen_ok, List.map_toArray, List.map_cons, List.map_nil, hs, hx, hrun]
  refine hK _ _ (h v' w' ?_ (grown_trans' (World.grownBy_alloc w0 _ _) h3) ?_)
  · unfold Own
    rw [strs_snoc, List.length_append, strs_length]
    exact h2
  · rcases h5 with h5 | h5
    · exact .inl h5
    · exact .inr ⟨_, h5, by simp⟩
/-- The text of a list of texts. -/
def textB (xs : List ByteArray) : ByteArray := if xs = [] then bs [110, 111, 110, 101] else bs (Lib.join (xs.map (·.data.toList)) [44])
theorem listNone_any (A : Option Addr) (n c B : Nat) (xs : List ByteArray) (w : World) (h : Rd w B A n (strs xs)) (hB : B ≤ w.heap.size) (hc : n ≤ c) (hn : n ≤ 1000) (hlen : (Lib.join (xs.map (·.data.toList)) [44]).length ≤ 1000000) :
    Calls Tryz.prog 32 #[.slice A n c] w fun e w' => e = .returned (.string (textB xs)) ∧ Below w.heap.size w w' := by
  have hl : xs.length = n := by have := h.len; rwa [strs_length] at this
  by_cases h0 : n = 0
  · have hx : xs = [] := List.eq_nil_of_length_eq_zero (by omega)
    have e : textB xs = bs [110, 111, 110, 101] := by unfold textB; rw [if_pos hx]
    rw [e]
    subst h0
    clear hl h
    go_enter Tryz.func32, Tryz.ntmps32
    go_wp2_with fail
    go_ret
    exact ⟨rfl, Below.refl _ _⟩
  · have hx : xs ≠ [] := fun e => h0 (by rw [← hl, e]; rfl)
    have e : textB xs = bs (Lib.join (xs.map (·.data.toList)) [44]) := by unfold textB; rw [if_neg hx]
    have e' := Lib.hid e
    obtain ⟨b, off, rfl, hb, hcell⟩ := h.2 (by omega)
    have hJ := Any.strings_Join Tryz.mJoin Tryz.xJoin b off c xs ⟨#[44]⟩ w (fun j x hj => hcell j _ (strs_get hj)) (by omega) (by omega) (by omega) (by show (Lib.join _ [44]).length ≤ _; omega)
    rw [hl] at hJ
    have HJ := Lib.hid hJ
    have h0' : ¬ (n : Int) = 0 := by omega
    clear hJ hcell h hl e
    go_enter Tryz.func32, Tryz.ntmps32
    go_wp2_with fail
    refine HJ.out.mono ?_
    rintro e2 w1 ⟨rfl, hb1⟩
    go_wp2_with fail
    go_ret
    exact ⟨by rw [e'.out]; rfl, hb1⟩
/-- The text of a list of numbers. -/
def numT (xs : List Nat) : ByteArray := textB (xs.map hexS)
theorem hexS_len (x : Nat) : (hexS x).data.toList.length = 8 := dgs_length _ _
theorem num_join_len (xs : List Nat) (hn : xs.length ≤ 256) : (Lib.join ((xs.map hexS).map (·.data.toList)) [44]).length ≤ 1000000 := by
  by_cases h : xs = []
  · subst h; decide
  · rw [join_len (n := 8) (by simpa using h) (fun l hl => by
      rw [List.map_map] at hl
      obtain ⟨x, _, rfl⟩ := List.mem_map.1 hl
      exact hexS_len x)]
    simp only [List.length_map]
    omega
set_option maxHeartbeats 2000000 in
theorem numbersText_any (A : Option Addr) (n c B : Nat) (xs : List Nat) (w : World) (h : Rd w B A n (f32s xs)) (hB : B ≤ w.heap.size) (hw : AllW xs) (ht : TabAt w) (hn : n ≤ 256) :
    Calls Tryz.prog 12 #[.slice A n c] w fun e w' => e = .returned (.tuple #[.string (numT xs), .bool true]) ∧ Below w.heap.size w w' := by
  have hl := h.lenF
  have HR := Lib.hid (h.alloc hB (.cells #[] 9))
  have HT := Lib.hid (ht.below (B := w.heap.size) ((Below.refl _ _).alloc (Nat.le_refl _) (.cells #[] 9)) ht.lt)
  have HO := Lib.hid (own_new w 9 (Nat.le_refl _) : Own _ w.heap.size 9 _ (strs []))
  have HB : Hid (Below w.heap.size w (w.alloc (.cells #[] 9))) := (Below.refl _ _).alloc (Nat.le_refl _) _
  have hTs : Hid (6 < w.heap.size) := ht.lt
  have Hw := Lib.hid hw
  have hB' := Lib.hid hB
  have hn' : ¬ (256 : Int) < (n : Int) := by omega
  clear h hw ht hB
  go_enter Tryz.func12, Tryz.ntmps12
  go_wp2_with fail
  go_loopw [4, 13] (fun v i wr => ∃ (k : Nat), k ≤ n ∧ i = .int .i64 k ∧ Own wr w.heap.size 9 v (strs ((xs.take k).map hexS)) ∧ Below w.heap.size w wr) (fun _ i _ => n - (intOf i).toNat)
  case atStart => exact ⟨0, Nat.zero_le _, rfl, HO.out, HB.out⟩
  case round =>
    clear HO HB
    obtain ⟨k, hk, rfl, hO, hB2⟩ := hrel
    have HO := Lib.hid hO; have HB2 := Lib.hid hB2
    clear hO hB2
    by_cases hlt : k < n
    · have hlt' : (k : Int) < (n : Int) := by omega
      obtain ⟨b, off, x, rfl, hbB, hx, hc0⟩ := HR.out.atF hlt
      have hbw : b < w.heap.size := by have := hB'.out; omega
      have hc : wr.cell? ⟨b, off + k, none⟩ = some (.float .f32 x) := by
        have h1 := hc0
        rw [World.cell?_alloc_lt w _ _ hbw] at h1
        unfold World.cell? at h1 ⊢
        rw [HB2.out.block b hbw]
        exact h1
      have HX := Lib.hid (Hw.out x (List.mem_of_getElem? hx.out))
      have HT2 := Lib.hid (show TabAt wr from by
        have := HT.out
        unfold TabAt World.cell? at this ⊢
        rw [HB2.out.block _ hTs.out]
        have e := (Below.refl w.heap.size w).alloc (Nat.le_refl _) (.cells #[] 9)
        rw [e.block _ hTs.out] at this
        exact this)
      have htk : xs.take (k + 1) = xs.take k ++ [x] := by rw [List.take_add_one, hx.out]; rfl
      have hmap : (xs.take (k + 1)).map hexS = (xs.take k).map hexS ++ [hexS x] := by rw [htk, List.map_append]; rfl
      have hkl : ((xs.take k).map hexS).length ≤ 2000000 := by rw [List.length_map, List.length_take]; omega
      obtain ⟨zs, hzs⟩ : ∃ zs, (xs.take k).map hexS = zs := ⟨_, rfl⟩
      rw [hzs] at HO hkl hmap
      have Hmap := Lib.hid hmap
      clear hzs
      clear hc0 hx htk hmap
      go_wp2_with fail
      refine (hexOf_any x _ HT2.out HX.out).mono ?_
      rintro e w3 ⟨rfl, hb3⟩
      have HO3 := Lib.hid (HO.out.below hb3 (Nat.le_refl _))
      have HB3 := Lib.hid (HB2.out.trans (hb3.mono HB2.out.size))
      have hle3 : w.heap.size ≤ w3.heap.size := HB3.out.size
      clear hb3
      go_wp2_with (at_builtin; go_must (refine emitS w3 rfl _ _ rfl w.heap.size u4 zs rfl HO3.out (hexS x) rfl hkl hle3 ?_))
      intro v' w4 hO' hg hor
      have HO4 := Lib.hid hO'
      have HB4 := Lib.hid (HB3.out.grown hg hle3 (fun g e => (HO3.out.lt g e).1))
      clear hO' hg hor HO HB2 HO3 HB3 hkl
      go_wp2
      go_roundw
      case rel => exact ⟨k + 1, by omega, by go_num, by rw [Hmap.out]; exact HO4.out, HB4.out⟩
      case measure => simp only [intOf]; omega
    · obtain rfl : k = n := by omega
      have hlt' : ¬ (k : Int) < (k : Int) := by omega
      have htk : xs.take k = xs := List.take_of_length_le (by rw [hl.out]; omega)
      have HO2 : Hid (Own wr w.heap.size 9 u4 (strs (xs.map hexS))) := by have := HO.out; rw [htk] at this; exact this
      obtain ⟨A', c', rfl, h1, h2⟩ := HO2.out.shape
      have hlen : (strs (xs.map hexS)).length = k := by rw [strs_length, List.length_map]; exact hl.out
      rw [hlen] at h1 HO2 ⊢
      have hrd := HO2.out.rd.2
      rw [hlen] at hrd
      have HRd := Lib.hid hrd
      clear hlen htk hrd HO
      go_wp2_with fail
      refine (listNone_any A' k c' _ (xs.map hexS) _ HRd.out (Nat.le_refl _) h1 (by omega) (num_join_len xs (by rw [hl.out]; omega))).mono ?_
      rintro e w3 ⟨rfl, hb3⟩
      have HB3 := Lib.hid (HB2.out.trans (hb3.mono HB2.out.size))
      clear hb3
      go_wp2_with fail
      go_ret2
      exact ⟨rfl, HB3.out⟩
end Go.Proofs.YtgbclibemdnohaaGreatDoor
