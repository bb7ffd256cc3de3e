/- The program reads lists of numbers back. -/
import Derived.Test.YtijafnejdibdlaaGreatDoorTexts
namespace Go.Proofs.YtijafnejdibdlaaGreatDoor
open Go.RowKit
set_option maxRecDepth 100000
theorem noC_hex (x : Nat) : NoC (hexS x).data.toList := dgs_ne _ _
theorem hexs_data (xs : List Nat) : ((xs.map hexS).map (·.data.toList)).map bs = xs.map hexS := by
  rw [List.map_map, List.map_map]
  exact List.map_congr_left (fun x _ => rfl)
theorem numT_ne {xs : List Nat} (h : xs ≠ []) : numT xs ≠ bs [110, 111, 110, 101] := by
  intro e
  have h2 := congrArg (fun b : ByteArray => b.data.toList.length) e
  have hne : xs.map hexS ≠ [] := by simpa using h
  have e1 : numT xs = bs (Lib.join ((xs.map hexS).map (·.data.toList)) [44]) := by unfold numT textB; rw [if_neg hne]
  rw [e1] at h2
  have h3 : (Lib.join ((xs.map hexS).map (·.data.toList)) [44]).length = 4 := h2
  rw [join_len (n := 8) (by simpa using h) (fun l hl => by
    rw [List.map_map] at hl
    obtain ⟨x, _, rfl⟩ := List.mem_map.1 hl
    exact hexS_len x)] at h3
  simp only [List.length_map] at h3
  have : 0 < xs.length := List.length_pos_iff.2 h
  omega
theorem indexByte_eq (c : UInt8) : ∀ l : List UInt8, Lib.indexByte l c = Lib.index l [c]
  | [] => rfl
  | b :: l => by
    rw [Lib.indexByte, Lib.index, indexByte_eq c l]
    have e : ([c] : List UInt8).isPrefixOf (b :: l) = (b == c) := by
      simp [List.isPrefixOf, Bool.beq_comm]
    rw [e]
/-- strings.Split at the text of a list of numbers. -/
theorem split_any (xs : List Nat) (h : xs ≠ []) (hn : xs.length ≤ 256) (w : World) :
    Calls Tryz.prog 58 #[.string (numT xs), .string ⟨#[44]⟩] w fun e w' => e = .returned (.slice (some ⟨w.heap.size, 0, none⟩) xs.length xs.length) ∧ w' = w.alloc (.cells (strs (xs.map hexS)).toArray 9) := by
  have hne : xs.map hexS ≠ [] := by simpa using h
  have e1 : numT xs = bs (Lib.join ((xs.map hexS).map (·.data.toList)) [44]) := by unfold numT textB; rw [if_neg hne]
  have hls : ((xs.map hexS).map (·.data.toList)) ≠ [] := by simpa using h
  have hno : ∀ l ∈ ((xs.map hexS).map (·.data.toList)), NoC l := fun l hl => by
    rw [List.map_map] at hl
    obtain ⟨x, _, rfl⟩ := List.mem_map.1 hl
    exact noC_hex x
  have hlen := num_join_len xs hn
  have hc := count_textB _ hls hno
  have hs := split_textB _ hls hno
  rw [hexs_data] at hs
  rw [← e1] at hc hs
  have hlx : ((xs.map hexS).map (·.data.toList)).length = xs.length := by rw [List.length_map, List.length_map]
  rw [hlx] at hc hs
  have hpos : 0 < xs.length := List.length_pos_iff.2 h
  have hsz : (numT xs).size ≤ 1000000 := by rw [Lib.size_eq, e1]; exact hlen
  have hcl := Lib.countB_le ⟨#[44]⟩ (by decide) _ (numT xs) (Nat.le_refl _)
  have hi9 : (Tryz.prog.info? (Tryz.mSplit_ren.t 9)).map (fun i => (i.zero, i.size, i.bytes)) = some (some (.string ByteArray.empty), 1, 16) := info_str
  have L := Tryz.mSplit
  have c := Any.strings_genSplit_core { L with } hi9 (numT xs) ⟨#[44]⟩ 0 (-1) xs.length w (by omega) (by decide) (Nat.zero_le _)
    (fun x c' hx => (Any.strings_Index_one { L with } x 44 (w.alloc (.cells c' 9))).mono (fun e w' ⟨he, hw⟩ => ⟨he.trans (by rw [indexByte_eq]), hw⟩))
    ((Any.strings_Count_one { L with } (numT xs) 44 w).mono (fun e w' ⟨he, hw⟩ => ⟨he.trans (by
      show Ending.returned (Value.int .i64 ((Lib.countByte (numT xs).data.toList 44 : Nat) : Int)) = Ending.returned (Value.int .i64 ((Lib.count (numT xs).data.toList [44] : Nat) : Int))
      rw [Lib.count_one]; rfl), hw⟩)) (by decide) (by decide) (by rw [if_pos (by decide), hc]; omega)
  rw [hs] at c
  have e2 : Lib.cellsOf (xs.map hexS) xs.length = (strs (xs.map hexS)).toArray := by
    have := Lib.cellsOf_full (xs.map hexS)
    rw [List.length_map] at this
    exact this
  rw [e2, List.length_map] at c
  have C := Lib.hid c
  have hf : Tryz.mSplit_ren.f 221 = 74 := rfl
  have ht : Tryz.mSplit_ren.t 9 = 9 := rfl
  rw [hf, ht] at C
  clear hne e1 hls hno hlen hc hs hlx hcl L c e2
  go_enter Tryz.func58, Tryz.ntmps58
  go_wp2_with fail
  refine C.out.mono ?_
  rintro e w1 ⟨rfl, rfl⟩
  go_wp2_with fail
  go_ret
  exact ⟨rfl, rfl⟩
theorem parts_any (xs : List Nat) (hn : xs.length ≤ 256) (w : World) :
    Calls Tryz.prog 37 #[.string (numT xs)] w fun e w' => ∃ (A : Option Addr) (c : Nat), e = .returned (.slice A xs.length c) ∧ Rd w' w'.heap.size A xs.length (strs (xs.map hexS)) ∧ Below w.heap.size w w' := by
  by_cases h : xs = []
  · subst h
    have e : numT [] = ⟨#[110, 111, 110, 101]⟩ := rfl
    rw [e]
    go_enter Tryz.func37, Tryz.ntmps37
    go_wp2_with fail
    go_ret
    exact ⟨none, 0, rfl, ⟨rfl, fun h => absurd h (by simp)⟩, Below.refl _ _⟩
  · have hne : numT xs ≠ ⟨#[110, 111, 110, 101]⟩ := numT_ne h
    have C := Lib.hid (split_any xs h hn w)
    have hl : (strs (xs.map hexS)).length = xs.length := by rw [strs_length, List.length_map]
    have hnb : ((numT xs).toList == [110, 111, 110, 101]) = false := by
      rw [Lib.toList_data, beq_eq_false_iff_ne]
      intro e
      exact hne (by
        have : numT xs = ⟨(numT xs).data.toList.toArray⟩ := (Lib.mk_data _).symm
        rw [this, e])
    generalize numT xs = t at hne C hnb
    go_enter Tryz.func37, Tryz.ntmps37
    go_wp2_with fail
    refine C.out.mono ?_
    rintro e w1 ⟨rfl, rfl⟩
    have hrd : Hid (Rd (w.alloc (.cells (strs (xs.map hexS)).toArray 9)) (w.alloc (.cells (strs (xs.map hexS)).toArray 9)).heap.size (some ⟨w.heap.size, 0, none⟩) xs.length (strs (xs.map hexS))) := by
      refine ⟨hl, fun _ => ⟨w.heap.size, 0, rfl, by simp, fun j u hu => ?_⟩⟩
      rw [Nat.zero_add, World.cell?_alloc_at _ _ _ _ rfl, List.getElem?_toArray]
      exact hu
    have hb : Hid (Below w.heap.size w (w.alloc (.cells (strs (xs.map hexS)).toArray 9))) := (Below.refl _ _).alloc (Nat.le_refl _) _
    generalize w.alloc (.cells (strs (xs.map hexS)).toArray 9) = w1 at hrd hb ⊢
    go_wp2_with fail
    go_ret
    exact ⟨_, _, rfl, hrd.out, hb.out⟩
end Go.Proofs.YtijafnejdibdlaaGreatDoor
