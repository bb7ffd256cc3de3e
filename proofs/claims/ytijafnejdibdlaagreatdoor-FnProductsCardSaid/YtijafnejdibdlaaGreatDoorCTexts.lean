/- Lists of complex numbers as texts, and back. -/
import Derived.Test.YtijafnejdibdlaaGreatDoorReads
import Derived.Test.YtijafnejdibdlaaGreatDoorCDraws
namespace Go.Proofs.YtijafnejdibdlaaGreatDoor
open Go.RowKit
set_option maxRecDepth 100000
/-- The text of a complex number. -/
def hexC (p : Nat × Nat) : ByteArray := hexS p.1 ++ hexS p.2
theorem hexC_data (p : Nat × Nat) : (hexC p).data.toList = (hexS p.1).data.toList ++ (hexS p.2).data.toList := by
  unfold hexC; simp
theorem hexC_len (p : Nat × Nat) : (hexC p).data.toList.length = 16 := by rw [hexC_data, List.length_append, hexS_len, hexS_len]
theorem noC_hexC (p : Nat × Nat) : NoC (hexC p).data.toList := fun c hc => by
  rw [hexC_data] at hc
  rcases List.mem_append.1 hc with h | h
  · exact noC_hex _ c h
  · exact noC_hex _ c h
/-- The text of a list of complex numbers. -/
def numC (xs : List (Nat × Nat)) : ByteArray := textB (xs.map hexC)
theorem numC_join_len (xs : List (Nat × Nat)) (hn : xs.length ≤ 256) : (Lib.join ((xs.map hexC).map (·.data.toList)) [44]).length ≤ 1000000 := by
  by_cases h : xs = []
  · subst h; decide
  · rw [join_len (n := 16) (by simpa using h) (fun l hl => by
      rw [List.map_map] at hl
      obtain ⟨x, _, rfl⟩ := List.mem_map.1 hl
      exact hexC_len x)]
    simp only [List.length_map]
    omega
theorem hexCs_data (xs : List (Nat × Nat)) : ((xs.map hexC).map (·.data.toList)).map bs = xs.map hexC := by
  rw [List.map_map, List.map_map]
  exact List.map_congr_left (fun x _ => rfl)
theorem numC_ne {xs : List (Nat × Nat)} (h : xs ≠ []) : numC xs ≠ bs [110, 111, 110, 101] := by
  intro e
  have h2 := congrArg (fun b : ByteArray => b.data.toList.length) e
  have hne : xs.map hexC ≠ [] := by simpa using h
  have e1 : numC xs = bs (Lib.join ((xs.map hexC).map (·.data.toList)) [44]) := by unfold numC textB; rw [if_neg hne]
  rw [e1] at h2
  have h3 : (Lib.join ((xs.map hexC).map (·.data.toList)) [44]).length = 4 := h2
  rw [join_len (n := 16) (by simpa using h) (fun l hl => by
    rw [List.map_map] at hl
    obtain ⟨x, _, rfl⟩ := List.mem_map.1 hl
    exact hexC_len x)] at h3
  simp only [List.length_map] at h3
  have : 0 < xs.length := List.length_pos_iff.2 h
  omega
/-- strings.Split at the text of a list of complex numbers. -/
theorem splitC_any (xs : List (Nat × Nat)) (h : xs ≠ []) (hn : xs.length ≤ 256) (w : World) :
    Calls Tryz.prog 58 #[.string (numC xs), .string ⟨#[44]⟩] w fun e w' => e = .returned (.slice (some ⟨w.heap.size, 0, none⟩) xs.length xs.length) ∧ w' = w.alloc (.cells (strs (xs.map hexC)).toArray 9) := by
  have hne : xs.map hexC ≠ [] := by simpa using h
  have e1 : numC xs = bs (Lib.join ((xs.map hexC).map (·.data.toList)) [44]) := by unfold numC textB; rw [if_neg hne]
  have hls : ((xs.map hexC).map (·.data.toList)) ≠ [] := by simpa using h
  have hno : ∀ l ∈ ((xs.map hexC).map (·.data.toList)), NoC l := fun l hl => by
    rw [List.map_map] at hl
    obtain ⟨x, _, rfl⟩ := List.mem_map.1 hl
    exact noC_hexC x
  have hlen := numC_join_len xs hn
  have hc := count_textB _ hls hno
  have hs := split_textB _ hls hno
  rw [hexCs_data] at hs
  rw [← e1] at hc hs
  have hlx : ((xs.map hexC).map (·.data.toList)).length = xs.length := by rw [List.length_map, List.length_map]
  rw [hlx] at hc hs
  have hpos : 0 < xs.length := List.length_pos_iff.2 h
  have hsz : (numC xs).size ≤ 1000000 := by rw [Lib.size_eq, e1]; exact hlen
  have hcl := Lib.countB_le ⟨#[44]⟩ (by decide) _ (numC xs) (Nat.le_refl _)
  have hi9 : (Tryz.prog.info? (Tryz.mSplit_ren.t 9)).map (fun i => (i.zero, i.size, i.bytes)) = some (some (.string ByteArray.empty), 1, 16) := info_str
  have L := Tryz.mSplit
  have c := Any.strings_genSplit_core { L with } hi9 (numC xs) ⟨#[44]⟩ 0 (-1) xs.length w (by omega) (by decide) (Nat.zero_le _)
    (fun x c' hx => (Any.strings_Index_one { L with } x 44 (w.alloc (.cells c' 9))).mono (fun e w' ⟨he, hw⟩ => ⟨he.trans (by rw [indexByte_eq]), hw⟩))
    ((Any.strings_Count_one { L with } (numC xs) 44 w).mono (fun e w' ⟨he, hw⟩ => ⟨he.trans (by
      show Ending.returned (Value.int .i64 ((Lib.countByte (numC xs).data.toList 44 : Nat) : Int)) = Ending.returned (Value.int .i64 ((Lib.count (numC xs).data.toList [44] : Nat) : Int))
      rw [Lib.count_one]; rfl), hw⟩)) (by decide) (by decide) (by rw [if_pos (by decide), hc]; omega)
  rw [hs] at c
  have e2 : Lib.cellsOf (xs.map hexC) xs.length = (strs (xs.map hexC)).toArray := by
    have := Lib.cellsOf_full (xs.map hexC)
    rw [List.length_map] at this
    exact this
  rw [e2, List.length_map] at c
  have C := Lib.hid c
  have hf : Tryz.mSplit_ren.f 221 = 74 := rfl
  have ht : Tryz.mSplit_ren.t 9 = 9 := rfl
  rw [hf, ht] at C
  clear hne e1 hls hno hlen hc hs hlx hcl L c e2
  go_enter Tryz.func58, Tryz.ntmps58
  go_wp2_with fail
  refine C.out.mono ?_
  rintro e w1 ⟨rfl, rfl⟩
  go_wp2_with fail
  go_ret
  exact ⟨rfl, rfl⟩
theorem partsC_any (xs : List (Nat × Nat)) (hn : xs.length ≤ 256) (w : World) :
    Calls Tryz.prog 37 #[.string (numC xs)] w fun e w' => ∃ (A : Option Addr) (c : Nat), e = .returned (.slice A xs.length c) ∧ Rd w' w'.heap.size A xs.length (strs (xs.map hexC)) ∧ Below w.heap.size w w' := by
  by_cases h : xs = []
  · subst h
    have e : numC [] = ⟨#[110, 111, 110, 101]⟩ := rfl
    rw [e]
    go_enter Tryz.func37, Tryz.ntmps37
    go_wp2_with fail
    go_ret
    exact ⟨none, 0, rfl, ⟨rfl, fun h => absurd h (by simp)⟩, Below.refl _ _⟩
  · have hne : numC xs ≠ ⟨#[110, 111, 110, 101]⟩ := numC_ne h
    have C := Lib.hid (splitC_any xs h hn w)
    have hl : (strs (xs.map hexC)).length = xs.length := by rw [strs_length, List.length_map]
    have hnb : ((numC xs).toList == [110, 111, 110, 101]) = false := by
      rw [Lib.toList_data, beq_eq_false_iff_ne]
      intro e
      exact hne (by
        have : numC xs = ⟨(numC xs).data.toList.toArray⟩ := (Lib.mk_data _).symm
        rw [this, e])
    generalize numC xs = t at hne C hnb
    go_enter Tryz.func37, Tryz.ntmps37
    go_wp2_with fail
    refine C.out.mono ?_
    rintro e w1 ⟨rfl, rfl⟩
    have hrd : Hid (Rd (w.alloc (.cells (strs (xs.map hexC)).toArray 9)) (w.alloc (.cells (strs (xs.map hexC)).toArray 9)).heap.size (some ⟨w.heap.size, 0, none⟩) xs.length (strs (xs.map hexC))) := by
      refine ⟨hl, fun _ => ⟨w.heap.size, 0, rfl, by simp, fun j u hu => ?_⟩⟩
      rw [Nat.zero_add, World.cell?_alloc_at _ _ _ _ rfl, List.getElem?_toArray]
      exact hu
    have hb : Hid (Below w.heap.size w (w.alloc (.cells (strs (xs.map hexC)).toArray 9))) := (Below.refl _ _).alloc (Nat.le_refl _) _
    generalize w.alloc (.cells (strs (xs.map hexC)).toArray 9) = w1 at hrd hb ⊢
    go_wp2_with fail
    go_ret
    exact ⟨_, _, rfl, hrd.out, hb.out⟩
set_option maxHeartbeats 2000000 in
theorem complexText_any (A : Option Addr) (n c B : Nat) (xs : List (Nat × Nat)) (w : World) (h : Rd w B A n (c64s xs)) (hB : B ≤ w.heap.size) (hw : AllW2 xs) (ht : TabAt w) (hn : n ≤ 256) :
    Calls Tryz.prog 16 #[.slice A n c] w fun e w' => e = .returned (.tuple #[.string (numC xs), .bool true]) ∧ Below w.heap.size w w' := by
  have hl := h.lenC
  have HR := Lib.hid (h.alloc hB (.cells #[] 9))
  have HT := Lib.hid (ht.below (B := w.heap.size) ((Below.refl _ _).alloc (Nat.le_refl _) (.cells #[] 9)) ht.lt)
  have HO := Lib.hid (own_new w 9 (Nat.le_refl _) : Own _ w.heap.size 9 _ (strs []))
  have HB : Hid (Below w.heap.size w (w.alloc (.cells #[] 9))) := (Below.refl _ _).alloc (Nat.le_refl _) _
  have hTs : Hid (6 < w.heap.size) := ht.lt
  have Hw := Lib.hid hw
  have hB' := Lib.hid hB
  have hn' : ¬ (256 : Int) < (n : Int) := by omega
  clear h hw ht hB
  go_enter Tryz.func16, Tryz.ntmps16
  go_wp2_with fail
  go_loopw [4, 13] (fun v i wr => ∃ (k : Nat), k ≤ n ∧ i = .int .i64 k ∧ Own wr w.heap.size 9 v (strs ((xs.take k).map hexC)) ∧ Below w.heap.size w wr) (fun _ i _ => n - (intOf i).toNat)
  case atStart => exact ⟨0, Nat.zero_le _, rfl, HO.out, HB.out⟩
  case round =>
    clear HO HB
    obtain ⟨k, hk, rfl, hO, hB2⟩ := hrel
    have HO := Lib.hid hO; have HB2 := Lib.hid hB2
    clear hO hB2
    by_cases hlt : k < n
    · have hlt' : (k : Int) < (n : Int) := by omega
      obtain ⟨b, off, x, y, rfl, hbB, hx, hc0⟩ := HR.out.atC hlt
      have hbw : b < w.heap.size := by have := hB'.out; omega
      have hc : wr.cell? ⟨b, off + k, none⟩ = some (.complex .f32 x y) := by
        have h1 := hc0
        rw [World.cell?_alloc_lt w _ _ hbw] at h1
        unfold World.cell? at h1 ⊢
        rw [HB2.out.block b hbw]
        exact h1
      have HX := Lib.hid (Hw.out (x, y) (List.mem_of_getElem? hx.out))
      have HT2 := Lib.hid (show TabAt wr from by
        have := HT.out
        unfold TabAt World.cell? at this ⊢
        rw [HB2.out.block _ hTs.out]
        have e := (Below.refl w.heap.size w).alloc (Nat.le_refl _) (.cells #[] 9)
        rw [e.block _ hTs.out] at this
        exact this)
      have htk : xs.take (k + 1) = xs.take k ++ [(x, y)] := by rw [List.take_add_one, hx.out]; rfl
      have hmap : (xs.take (k + 1)).map hexC = (xs.take k).map hexC ++ [hexC (x, y)] := by rw [htk, List.map_append]; rfl
      have hkl : ((xs.take k).map hexC).length ≤ 2000000 := by rw [List.length_map, List.length_take]; omega
      obtain ⟨zs, hzs⟩ : ∃ zs, (xs.take k).map hexC = zs := ⟨_, rfl⟩
      rw [hzs] at HO hkl hmap
      have Hmap := Lib.hid hmap
      clear hzs
      clear hc0 hx htk hmap
      go_wp2_with fail
      refine (hexOf_any x _ HT2.out HX.out.1).mono ?_
      rintro e w2 ⟨rfl, hb2⟩
      have HT3 := Lib.hid (HT2.out.below hb2 HT2.out.lt)
      have HO2 := Lib.hid (HO.out.below hb2 (Nat.le_refl _))
      have HB22 := Lib.hid (HB2.out.trans (hb2.mono HB2.out.size))
      clear hb2 HO HB2
      have HO := HO2; have HB2 := HB22
      clear HO2 HB22
      have hxc : Hid (hexC (x, y) = hexS x ++ hexS y) := rfl
      have hsa : (hexS x).size = 8 := by rw [Lib.size_eq]; exact hexS_len x
      obtain ⟨ca, hca⟩ : ∃ ca, hexS x = ca := ⟨_, rfl⟩
      rw [hca] at hxc hsa ⊢
      go_wp2_with fail
      refine (hexOf_any y _ HT3.out HX.out.2).mono ?_
      rintro e w3 ⟨rfl, hb3⟩
      have hsb : (hexS y).size = 8 := by rw [Lib.size_eq]; exact hexS_len y
      obtain ⟨cb, hcb⟩ : ∃ cb, hexS y = cb := ⟨_, rfl⟩
      rw [hcb] at hxc hsb ⊢
      rw [hxc.out] at Hmap
      clear hca hcb
      have HO3 := Lib.hid (HO.out.below hb3 (Nat.le_refl _))
      have HB3 := Lib.hid (HB2.out.trans (hb3.mono HB2.out.size))
      have hle3 : w.heap.size ≤ w3.heap.size := HB3.out.size
      clear hb3
      go_wp2_with (at_builtin; go_must (refine emitS w3 rfl _ _ rfl w.heap.size u4 zs rfl HO3.out (ca ++ cb) rfl hkl hle3 ?_))
      intro v' w4 hO' hg hor
      have HO4 := Lib.hid hO'
      have HB4 := Lib.hid (HB3.out.grown hg hle3 (fun g e => (HO3.out.lt g e).1))
      clear hO' hg hor HO HB2 HO3 HB3 hkl
      go_wp2
      go_roundw
      case rel => exact ⟨k + 1, by omega, by go_num, by rw [Hmap.out]; exact HO4.out, HB4.out⟩
      case measure => simp only [intOf]; omega
    · obtain rfl : k = n := by omega
      have hlt' : ¬ (k : Int) < (k : Int) := by omega
      have htk : xs.take k = xs := List.take_of_length_le (by rw [hl.out]; omega)
      have HO2 : Hid (Own wr w.heap.size 9 u4 (strs (xs.map hexC))) := by have := HO.out; rw [htk] at this; exact this
      obtain ⟨A', c', rfl, h1, h2⟩ := HO2.out.shape
      have hlen : (strs (xs.map hexC)).length = k := by rw [strs_length, List.length_map]; exact hl.out
      rw [hlen] at h1 HO2 ⊢
      have hrd := HO2.out.rd.2
      rw [hlen] at hrd
      have HRd := Lib.hid hrd
      clear hlen htk hrd HO
      go_wp2_with fail
      refine (listNone_any A' k c' _ (xs.map hexC) _ HRd.out (Nat.le_refl _) h1 (by omega) (numC_join_len xs (by rw [hl.out]; omega))).mono ?_
      rintro e w3 ⟨rfl, hb3⟩
      have HB3 := Lib.hid (HB2.out.trans (hb3.mono HB2.out.size))
      clear hb3
      go_wp2_with fail
      go_ret2
      exact ⟨rfl, HB3.out⟩
theorem hexC_cut (p : Nat × Nat) : (hexC p).extract 0 8 = hexS p.1 ∧ (hexC p).extract 8 16 = hexS p.2 := by
  have h1 : (hexS p.1).size = 8 := by rw [Lib.size_eq]; exact hexS_len _
  have h2 : (hexS p.2).size = 8 := by rw [Lib.size_eq]; exact hexS_len _
  constructor
  · unfold hexC
    rw [← h1]
    exact ByteArray.extract_append_eq_left rfl
  · unfold hexC
    have e : (hexS p.1 ++ hexS p.2).size = 16 := by rw [ByteArray.size_append, h1, h2]
    exact ByteArray.extract_append_eq_right h1.symm (by rw [h1, h2])
set_option maxHeartbeats 2000000 in
theorem readComplex_any (xs : List (Nat × Nat)) (w : World) (hw : AllW2 xs) (ht : TabAt w) (hn : xs.length ≤ 256) :
    Calls Tryz.prog 17 #[.string (numC xs)] w fun e w' => ∃ v, e = .returned (.tuple #[v, .bool true]) ∧ Own w' w.heap.size 24 v (c64s (xs.map cn2)) ∧ Below w.heap.size w w' := by
  have hTs : Hid (6 < w.heap.size) := ht.lt
  have Hw := Lib.hid hw
  have HT := Lib.hid ht
  have C := Lib.hid (partsC_any xs hn w)
  obtain ⟨n, hnx⟩ : ∃ n, xs.length = n := ⟨_, rfl⟩
  have Hn := Lib.hid hnx
  rw [hnx] at C hn
  generalize numC xs = t at C
  clear hw ht hnx
  go_enter Tryz.func17, Tryz.ntmps17
  go_wp2_with fail
  refine C.out.mono ?_
  rintro e w1 ⟨A, c, rfl, hR, hb⟩
  have HR := Lib.hid hR
  have HB := Lib.hid (hb.alloc hb.size (.cells #[] 24))
  have hle : w.heap.size ≤ w1.heap.size := hb.size
  have HB1 : Hid (Below w1.heap.size w1 (w1.alloc (.cells #[] 24))) := (Below.refl _ _).alloc (Nat.le_refl _) _
  have HO1 := Lib.hid (own_new w1 24 (Nat.le_refl _) : Own _ w1.heap.size 24 _ (c64s []))
  clear hR hb
  go_wp2_with fail
  go_loopw [5, 17] (fun v i wr => ∃ (k : Nat), k ≤ n ∧ i = .int .i64 k ∧ Own wr w1.heap.size 24 v (c64s ((xs.take k).map cn2)) ∧ Below w1.heap.size w1 wr ∧ Below w.heap.size w wr) (fun _ i _ => n - (intOf i).toNat)
  case atStart => exact ⟨0, Nat.zero_le _, rfl, HO1.out, HB1.out, HB.out⟩
  case round =>
    clear HB HB1 HO1
    obtain ⟨k, hk, rfl, hO, hB1, hB2⟩ := hrel
    have HO := Lib.hid hO; have HB2 := Lib.hid hB2; have HB1 := Lib.hid hB1
    clear hO hB2 hB1
    by_cases hlt : k < n
    · have hlt' : (k : Int) < (n : Int) := by omega
      obtain ⟨b, off, u, rfl, hbB, hu, hc0⟩ := HR.out.at_ hlt
      have hxk : xs[k]? = some (xs[k]'(by have := Hn.out; omega)) := List.getElem?_eq_getElem _
      generalize xs[k]'(by have := Hn.out; omega) = x at hxk
      have hux : u = .string (hexC x) := by
        have h1 := strs_get (xs := xs.map hexC) (j := k) (x := hexC x) (by rw [List.getElem?_map, hxk]; rfl)
        have h2 := hu
        rw [h1] at h2
        injection h2 with h2
        exact h2.symm
      subst hux
      have hc : wr.cell? ⟨b, off + k, none⟩ = some (.string (hexC x)) := by
        have h1 := hc0
        unfold World.cell? at h1 ⊢
        rw [HB1.out.block b hbB]
        exact h1
      have HX := Lib.hid (Hw.out x (List.mem_of_getElem? hxk))
      have HT2 := Lib.hid (HT.out.below HB2.out hTs.out)
      have hmap : (xs.take (k + 1)).map cn2 = (xs.take k).map cn2 ++ [cn2 x] := by rw [List.take_add_one, hxk, List.map_append]; rfl
      have hkl : ((xs.take k).map cn2).length ≤ 2000000 := by rw [List.length_map, List.length_take]; omega
      obtain ⟨zs, hzs⟩ : ∃ zs, (xs.take k).map cn2 = zs := ⟨_, rfl⟩
      rw [hzs] at HO hkl hmap
      have Hmap := Lib.hid hmap
      have hn' : ¬ (256 : Int) < (n : Int) := by omega
      have hcut := hexC_cut x
      have Hc1 := Lib.hid hcut.1
      have Hc2 := Lib.hid hcut.2
      have hsz : (hexC x).size = 16 := by rw [Lib.size_eq]; exact hexC_len x
      generalize hexC x = tx at hc Hc1 Hc2 hsz
      clear hc0 hu hxk hmap hzs hcut
      go_wp2_with fail
      rw [Hc1.out]
      refine (readHex_any x.1 wr HT2.out HX.out.1).mono ?_
      rintro e w2 ⟨rfl, hb2⟩
      have HT3 := Lib.hid (HT2.out.below hb2 HT2.out.lt)
      have HO2 := Lib.hid (HO.out.below hb2 (Nat.le_refl _))
      have HB22 := Lib.hid (HB2.out.trans (hb2.mono HB2.out.size))
      have HB12 := Lib.hid (HB1.out.trans (hb2.mono HB1.out.size))
      clear hb2 HO HB2 HB1
      go_wp2_with fail
      rw [Hc2.out]
      refine (readHex_any x.2 w2 HT3.out HX.out.2).mono ?_
      rintro e w3 ⟨rfl, hb3⟩
      have HO3 := Lib.hid (HO2.out.below hb3 (Nat.le_refl _))
      have HB3 := Lib.hid (HB22.out.trans (hb3.mono HB22.out.size))
      have HB13 := Lib.hid (HB12.out.trans (hb3.mono HB12.out.size))
      have hle3 : w1.heap.size ≤ w3.heap.size := HB13.out.size
      clear hb3
      obtain ⟨y, hy⟩ : ∃ y, cn2 x = y := ⟨_, rfl⟩
      have e1 : cn .f32 x.1 = y.1 := by rw [← hy]; rfl
      have e2 : cn .f32 x.2 = y.2 := by rw [← hy]; rfl
      rw [hy] at Hmap
      rw [e1, e2]
      clear hy e1 e2
      go_wp2_with (at_builtin; go_must (refine emitC2 w3 rfl _ _ rfl w1.heap.size u5 zs rfl HO3.out y rfl hkl hle3 ?_))
      intro v' w4 hO' hg hor
      have HO4 := Lib.hid hO'
      have HB4 := Lib.hid (HB3.out.grown hg (by omega) (fun g e => by have := (HO3.out.lt g e).1; omega))
      have HB14 := Lib.hid (HB13.out.grown hg hle3 (fun g e => (HO3.out.lt g e).1))
      clear hO' hg hor HO2 HB22 HB12 HO3 HB3 HB13 hkl
      go_wp2
      go_roundw
      case rel => exact ⟨k + 1, by omega, by go_num, by rw [Hmap.out]; exact HO4.out, HB14.out, HB4.out⟩
      case measure => simp only [intOf]; omega
    · obtain rfl : k = n := by omega
      have hlt' : ¬ (k : Int) < (k : Int) := by omega
      have htk : xs.take k = xs := List.take_of_length_le (by rw [Hn.out]; omega)
      have HO2 : Hid (Own wr w1.heap.size 24 u5 (c64s (xs.map cn2))) := by have := HO.out; rw [htk] at this; exact this
      clear htk HO
      go_wp2_with fail
      go_ret2
      exact ⟨_, rfl, HO2.out.base_le hle, HB2.out⟩
end Go.Proofs.YtijafnejdibdlaaGreatDoor
