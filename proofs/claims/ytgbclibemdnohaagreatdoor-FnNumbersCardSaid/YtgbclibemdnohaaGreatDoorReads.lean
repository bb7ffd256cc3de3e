/- The program reads lists of numbers back. -/
import Derived.Test.YtgbclibemdnohaaGreatDoorTexts
namespace Go.Proofs.YtgbclibemdnohaaGreatDoor
open Go.RowKit
set_option maxRecDepth 100000
theorem noC_hex (x : Nat) : NoC (hexS x).data.toList := dgs_ne _ _
theorem hexs_data (xs : List Nat) : ((xs.map hexS).map (·.data.toList)).map bs = xs.map hexS := by
  rw [List.map_map, List.map_map]
  exact List.map_congr_left (fun x _ => rfl)
theorem numT_ne {xs : List Nat} (h : xs ≠ []) : numT xs ≠ bs [110, 111, 110, 101] := by
  intro e
  have h2 := congrArg (fun b : ByteArray => b.data.toList.length) e
  have hne : xs.map hexS ≠ [] := by simpa using h
  have e1 : numT xs = bs (Lib.join ((xs.map hexS).map (·.data.toList)) [44]) := by unfold numT textB; rw [if_neg hne]
  rw [e1] at h2
  have h3 : (Lib.join ((xs.map hexS).map (·.data.toList)) [44]).length = 4 := h2
  rw [join_len (n := 8) (by simpa using h) (fun l hl => by
    rw [List.map_map] at hl
    obtain ⟨x, _, rfl⟩ := List.mem_map.1 hl
    exact hexS_len x)] at h3
  simp only [List.length_map] at h3
  have : 0 < xs.length := List.length_pos_iff.2 h
  omega
theorem indexByte_eq (c : UInt8) : ∀ l : List UInt8, Lib.indexByte l c = Lib.index l [c]
  | [] => rfl
  | b :: l => by
    rw [Lib.indexByte, Lib.index, indexByte_eq c l]
    have e : ([c] : List UInt8).isPrefixOf (b :: l) = (b == c) := by
      simp [List.isPrefixOf, Bool.beq_comm]
    rw [e]
/-- strings.Split at the text of a list of numbers. -/
theorem split_any (xs : List Nat) (h : xs ≠ []) (hn : xs.length ≤ 256) (w : World) :
    Calls Tryz.prog 51 #[.string (numT xs), .string ⟨#[44]⟩] w fun e w' => e = .returned (.slice (some ⟨w.heap.size, 0, none⟩) xs.length xs.length) ∧ w' = w.alloc (.cells (strs (xs.map hexS)).toArray 9) := by
  have hne : xs.map hexS ≠ [] := by simpa using h
  have e1 : numT xs = bs (Lib.join ((xs.map hexS).map (·.data.toList)) [44]) := by unfold numT textB; rw [if_neg hne]
  have hls : ((xs.map hexS).map (·.data.toList)) ≠ [] := by simpa using h
  have hno : ∀ l ∈ ((xs.map hexS).map (·.data.toList)), NoC l := fun l hl => by
    rw [List.map_map] at hl
    obtain ⟨x, _, rfl⟩ := List.mem_map.1 hl
    exact noC_hex x
  have hlen := num_join_len xs hn
  have hc := count_textB _ hls hno
  have hs := split_textB _ hls hno
  rw [hexs_data] at hs
  rw [← e1] at hc hs
  have hlx : ((xs.map hexS).map (·.data.toList)).length = xs.length := by rw [List.length_map, List.length_map]
  rw [hlx] at hc hs
  have hpos : 0 < xs.length := List.length_pos_iff.2 h
  have hsz : (numT xs).size ≤ 1000000 := by rw [Lib.size_eq, e1]; exact hlen
  have hcl := Lib.countB_le ⟨#[44]⟩ (by decide) _ (numT xs) (Nat.le_refl _)
  have hi9 : (Tryz.prog.info? (Tryz.mSplit_ren.t 9)).map (fun i => (i.zero, i.size, i.bytes)) = some (some (.string ByteArray.empty), 1, 16) := info_str
  have L := Tryz.mSplit
  have c := Any.strings_genSplit_core { L with } hi9 (numT xs) ⟨#[44]⟩ 0 (-1) xs.length w (by omega) (by decide) (Nat.zero_le _)
    (fun x c' hx => (Any.strings_Index_one { L with } x 44 (w.alloc (.cells c' 9))).mono (fun e w' ⟨he, hw⟩ => ⟨he.trans (by rw [indexByte_eq]), hw⟩))
    ((Any.strings_Count_one { L with } (numT xs) 44 w).mono (fun e w' ⟨he, hw⟩ => ⟨he.trans (by
      show Ending.returned (Value.int .i64 ((Lib.countByte (numT xs).data.toList 44 : Nat) : Int)) = Ending.returned (Value.int .i64 ((Lib.count (numT xs).data.toList [44] : Nat) : Int))
      rw [Lib.count_one]; rfl), hw⟩)) (by decide) (by decide) (by rw [if_pos (by decide), hc]; omega)
  rw [hs] at c
  have e2 : Lib.cellsOf (xs.map hexS) xs.length = (strs (xs.map hexS)).toArray := by
    have := Lib.cellsOf_full (xs.map hexS)
    rw [List.length_map] at this
    exact this
  rw [e2, List.length_map] at c
  have C := Lib.hid c
  have hf : Tryz.mSplit_ren.f 221 = 65 := rfl
  have ht : Tryz.mSplit_ren.t 9 = 9 := rfl
  rw [hf, ht] at C
  clear hne e1 hls hno hlen hc hs hlx hcl L c e2
  go_enter Tryz.func51, Tryz.ntmps51
  go_wp2_with fail
  refine C.out.mono ?_
  rintro e w1 ⟨rfl, rfl⟩
  go_wp2_with fail
  go_ret
  exact ⟨rfl, rfl⟩
theorem parts_any (xs : List Nat) (hn : xs.length ≤ 256) (w : World) :
    Calls Tryz.prog 33 #[.string (numT xs)] w fun e w' => ∃ (A : Option Addr) (c : Nat), e = .returned (.slice A xs.length c) ∧ Rd w' w'.heap.size A xs.length (strs (xs.map hexS)) ∧ Below w.heap.size w w' := by
  by_cases h : xs = []
  · subst h
    have e : numT [] = ⟨#[110, 111, 110, 101]⟩ := rfl
    rw [e]
    go_enter Tryz.func33, Tryz.ntmps33
    go_wp2_with fail
    go_ret
    exact ⟨none, 0, rfl, ⟨rfl, fun h => absurd h (by simp)⟩, Below.refl _ _⟩
  · have hne : numT xs ≠ ⟨#[110, 111, 110, 101]⟩ := numT_ne h
    have C := Lib.hid (split_any xs h hn w)
    have hl : (strs (xs.map hexS)).length = xs.length := by rw [strs_length, List.length_map]
    have hnb : ((numT xs).toList == [110, 111, 110, 101]) = false := by
      rw [Lib.toList_data, beq_eq_false_iff_ne]
      intro e
      exact hne (by
        have : numT xs = ⟨(numT xs).data.toList.toArray⟩ := (Lib.mk_data _).symm
        rw [this, e])
    generalize numT xs = t at hne C hnb
    go_enter Tryz.func33, Tryz.ntmps33
    go_wp2_with fail
    refine C.out.mono ?_
    rintro e w1 ⟨rfl, rfl⟩
    have hrd : Hid (Rd (w.alloc (.cells (strs (xs.map hexS)).toArray 9)) (w.alloc (.cells (strs (xs.map hexS)).toArray 9)).heap.size (some ⟨w.heap.size, 0, none⟩) xs.length (strs (xs.map hexS))) := by
      refine ⟨hl, fun _ => ⟨w.heap.size, 0, rfl, by simp, fun j u hu => ?_⟩⟩
      rw [Nat.zero_add, World.cell?_alloc_at _ _ _ _ rfl, List.getElem?_toArray]
      exact hu
    have hb : Hid (Below w.heap.size w (w.alloc (.cells (strs (xs.map hexS)).toArray 9))) := (Below.refl _ _).alloc (Nat.le_refl _) _
    generalize w.alloc (.cells (strs (xs.map hexS)).toArray 9) = w1 at hrd hb ⊢
    go_wp2_with fail
    go_ret
    exact ⟨_, _, rfl, hrd.out, hb.out⟩
set_option maxHeartbeats 2000000 in
theorem readNumbers_any (xs : List Nat) (w : World) (hw : AllW xs) (ht : TabAt w) (hn : xs.length ≤ 256) :
    Calls Tryz.prog 13 #[.string (numT xs)] w fun e w' => ∃ v, e = .returned (.tuple #[v, .bool true]) ∧ Own w' w.heap.size 24 v (f32s (xs.map (cn .f32))) ∧ Below w.heap.size w w' := by
  have hTs : Hid (6 < w.heap.size) := ht.lt
  have Hw := Lib.hid hw
  have HT := Lib.hid ht
  have C := Lib.hid (parts_any xs hn w)
  obtain ⟨n, hnx⟩ : ∃ n, xs.length = n := ⟨_, rfl⟩
  have Hn := Lib.hid hnx
  rw [hnx] at C hn
  generalize numT xs = t at C
  clear hw ht hnx
  go_enter Tryz.func13, Tryz.ntmps13
  go_wp2_with fail
  refine C.out.mono ?_
  rintro e w1 ⟨A, c, rfl, hR, hb⟩
  have HR := Lib.hid hR
  have HB := Lib.hid (hb.alloc hb.size (.cells #[] 24))
  have hle : w.heap.size ≤ w1.heap.size := hb.size
  have HB1 : Hid (Below w1.heap.size w1 (w1.alloc (.cells #[] 24))) := (Below.refl _ _).alloc (Nat.le_refl _) _
  have HO1 := Lib.hid (own_new w1 24 (Nat.le_refl _) : Own _ w1.heap.size 24 _ (f32s []))
  clear hR hb
  go_wp2_with fail
  go_loopw [5, 15] (fun v i wr => ∃ (k : Nat), k ≤ n ∧ i = .int .i64 k ∧ Own wr w1.heap.size 24 v (f32s ((xs.take k).map (cn .f32))) ∧ Below w1.heap.size w1 wr ∧ Below w.heap.size w wr) (fun _ i _ => n - (intOf i).toNat)
  case atStart => exact ⟨0, Nat.zero_le _, rfl, HO1.out, HB1.out, HB.out⟩
  case round =>
    clear HB HB1 HO1
    obtain ⟨k, hk, rfl, hO, hB1, hB2⟩ := hrel
    have HO := Lib.hid hO; have HB2 := Lib.hid hB2; have HB1 := Lib.hid hB1
    clear hO hB2 hB1
    by_cases hlt : k < n
    · have hlt' : (k : Int) < (n : Int) := by omega
      obtain ⟨b, off, u, rfl, hbB, hu, hc0⟩ := HR.out.at_ hlt
      have hxk : xs[k]? = some (xs[k]'(by have := Hn.out; omega)) := List.getElem?_eq_getElem _
      generalize xs[k]'(by have := Hn.out; omega) = x at hxk
      have hux : u = .string (hexS x) := by
        have h1 := strs_get (xs := xs.map hexS) (j := k) (x := hexS x) (by rw [List.getElem?_map, hxk]; rfl)
        have h2 := hu
        rw [h1] at h2
        injection h2 with h2
        exact h2.symm
      subst hux
      have hc : wr.cell? ⟨b, off + k, none⟩ = some (.string (hexS x)) := by
        have h1 := hc0
        unfold World.cell? at h1 ⊢
        rw [HB1.out.block b hbB]
        exact h1
      have HX := Lib.hid (Hw.out x (List.mem_of_getElem? hxk))
      have HT2 := Lib.hid (HT.out.below HB2.out hTs.out)
      have hmap : (xs.take (k + 1)).map (cn .f32) = (xs.take k).map (cn .f32) ++ [cn .f32 x] := by rw [List.take_add_one, hxk, List.map_append]; rfl
      have hkl : ((xs.take k).map (cn .f32)).length ≤ 2000000 := by rw [List.length_map, List.length_take]; omega
      obtain ⟨zs, hzs⟩ : ∃ zs, (xs.take k).map (cn .f32) = zs := ⟨_, rfl⟩
      rw [hzs] at HO hkl hmap
      have Hmap := Lib.hid hmap
      have hn' : ¬ (256 : Int) < (n : Int) := by omega
      obtain ⟨y, hy⟩ : ∃ y, cn .f32 x = y := ⟨_, rfl⟩
      have Hr := Lib.hid (readHex_any x wr HT2.out HX.out)
      rw [hy] at Hmap Hr
      generalize hexS x = tx at hc Hr
      clear hc0 hu hxk hmap hzs hy
      go_wp2_with fail
      refine Hr.out.mono ?_
      rintro e w3 ⟨rfl, hb3⟩
      have HO3 := Lib.hid (HO.out.below hb3 (Nat.le_refl _))
      have HB3 := Lib.hid (HB2.out.trans (hb3.mono HB2.out.size))
      have HB13 := Lib.hid (HB1.out.trans (hb3.mono HB1.out.size))
      have hle3 : w1.heap.size ≤ w3.heap.size := HB13.out.size
      clear hb3
      go_wp2_with (at_builtin; go_must (refine emitF2 w3 rfl _ _ rfl w1.heap.size u5 zs rfl HO3.out y rfl hkl hle3 ?_))
      intro v' w4 hO' hg hor
      have HO4 := Lib.hid hO'
      have HB4 := Lib.hid (HB3.out.grown hg (by omega) (fun g e => by have := (HO3.out.lt g e).1; omega))
      have HB14 := Lib.hid (HB13.out.grown hg hle3 (fun g e => (HO3.out.lt g e).1))
      clear hO' hg hor HO HB2 HB1 HO3 HB3 HB13 hkl
      go_wp2
      go_roundw
      case rel => exact ⟨k + 1, by omega, by go_num, by rw [Hmap.out]; exact HO4.out, HB14.out, HB4.out⟩
      case measure => simp only [intOf]; omega
    · obtain rfl : k = n := by omega
      have hlt' : ¬ (k : Int) < (k : Int) := by omega
      have htk : xs.take k = xs := List.take_of_length_le (by rw [Hn.out]; omega)
      have HO2 : Hid (Own wr w1.heap.size 24 u5 (f32s (xs.map (cn .f32)))) := by have := HO.out; rw [htk] at this; exact this
      clear htk HO
      go_wp2_with fail
      go_ret2
      exact ⟨_, rfl, HO2.out.base_le hle, HB2.out⟩
end Go.Proofs.YtgbclibemdnohaaGreatDoor
