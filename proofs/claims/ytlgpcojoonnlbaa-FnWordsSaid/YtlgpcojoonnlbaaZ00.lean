/- Texts that stand side by side: CompLayYtlgpcojoonnlbaa, ShapesN, MeetI. -/
import Derived.Shelf.SlicesG.CompactI
import Derived.Test.YtlgpcojoonnlbaaProg
import Derived.Test.YtlgpcojoonnlbaaShapes
import Derived.Test.YtlgpcojoonnlbaaZ01
import Derived.Test.YtlgpcojoonnlbaaClone
import Derived.Deep.RegionLaw
import Derived.Deep.QuietTactic
section
/- The shelf's structure for slices.Compact at []int64, laid at this seat's numbers. -/
namespace Go.Proofs.Ytlgpcojoonnlbaa
open Go.Shelf
set_option maxRecDepth 100000 in
def Try.mComp_ren : Go.Shelf.Ren := ⟨fun | 43 => 42 | n => n, fun | 22 => 29 | 23 => 2 | 3 => 3 | 4 => 4 | 0 => 0 | n => n, fun | n => n⟩
set_option maxRecDepth 100000 in
theorem Try.mComp : Go.Proofs.SlLaysN.n43 Try.prog Try.mComp_ren := {
  mixed := by kernel_rfl,
  f43 := ⟨Try.f42.name, by decide, Try.func42.trans (congrArg some (by kernel_rfl))⟩,
  t0 := Try.underlying0,
  a0 := Try.isAgg0,
  z0 := Try.sizeOf0,
  v0 := Try.zeroValue0,
  t3 := Try.underlying3,
  a3 := Try.isAgg3,
  z3 := Try.sizeOf3,
  v3 := Try.zeroValue3,
  t4 := Try.underlying4,
  a4 := Try.isAgg4,
  z4 := Try.sizeOf4,
  v4 := Try.zeroValue4,
  t22 := Try.underlying29,
  a22 := Try.isAgg29,
  z22 := Try.sizeOf29,
  v22 := Try.zeroValue29,
  t23 := Try.underlying2,
  a23 := Try.isAgg2,
  z23 := Try.sizeOf2,
  v23 := Try.zeroValue2,
  i23 := by kernel_rfl }
end Go.Proofs.Ytlgpcojoonnlbaa
end
section
/- The frame of a statement whose functions give two numbers and whether there are such. -/
namespace Go.Proofs.Ytlgpcojoonnlbaa
open Go.RowKit
def GaveNNB (w : World) (r : Option (Int × Int)) (e : Ending) (w' : World) : Prop :=
  ∃ (x y : Int) (ok : Bool), e = .returned (.tuple #[.int .i64 x, .int .i64 y, .bool ok]) ∧ Hid (ok = r.isSome) ∧ Hid (x = (r.map Prod.fst).getD 0) ∧ Hid (y = (r.map Prod.snd).getD 0) ∧ Below w.heap.size w w'
def FnLN_NNB (f : Nat) (r : List Int → Int → Option (Int × Int)) : Prop :=
  ∀ (A : Option Addr) (n c B : Nat) (xs : List Int) (k : Int) (w : World), Rd w B A n (i64s xs) → B ≤ w.heap.size → xs.length ≤ 1048576 → Fit xs → n ≤ c ∧ c ≤ maxLen → (-9223372036854775808 ≤ k ∧ k ≤ 9223372036854775807) → Calls Try.prog f #[.slice A n c, .int .i64 k] w (GaveNNB w (r xs k))
end Go.Proofs.Ytlgpcojoonnlbaa
end
section
/- MeetingsIn: walks of both functions. -/
namespace Go.Proofs.Ytlgpcojoonnlbaa
open Go.RowKit
set_option maxRecDepth 100000
/-- An element appended, as one step of a region that draws its order: the slice is the call's own, the world has moved at one block besides since. -/
theorem step_emitI {w0 w : World} {ops : Array Oper} {o : Oper} {a : Act} {K : Act → World → Prop} {Q : Exit → Act → World → Prop} {E : Prop} (hgd : o.guard = none) (s x : Operand)
    (ho : o.op = .call { callee := .builtin .append, args := #[s, x], argTypes := #[29, 29] })
    (base : Nat) (v : Value) (xs : List Int) (hs : a.eval s = v) (hown : Own w0 base 2 v (i64s xs)) (gs : Nat) (hne : v.ownBlock ≠ some gs) (hgr : w0.grownBy w (some gs)) (u : Int) (h : Nat) (hx : a.eval x = .slice (some ⟨h, 0, none⟩) 1 1) (hc : w.cell? ⟨h, 0, none⟩ = some (.int .i64 u))
    (h63 : xs.length ≤ 2000000) (hbase : base ≤ w0.heap.size)
    (hK : ∀ v' w', Own w' base 2 v' (i64s (xs ++ [u])) → w.grownBy w' v.ownBlock → (v'.ownBlock = v.ownBlock ∨ ∃ k, v'.ownBlock = some k ∧ w.heap.size ≤ k) → K (a.put o.dst v') w') :
    if Region.wanted o (yielded ops a.tmps) = true then Oper.wp Try.prog o a w K Q else E := by
  have hw : Region.wanted o (yielded ops a.tmps) = true := by simp [Region.wanted, hgd]
  rw [if_pos hw]
  obtain ⟨i0, hi0, hz0, hz1, hz2⟩ := info_parts info_i64'
  have hown1 : Own w base 2 v (i64s xs) := hown.kept hgr (.inr hne)
  have hown' : w.ownsRow base 2 1 v xs.length (i64s xs) := by have := hown1; unfold Own at this; rwa [i64s_length] at this
  obtain ⟨v', w', hrun, h2, h3, _, h5⟩ := run_append_own_at (P := Try.prog) w base 29 o.type 2 i0 (.int .i64 0) 1 8 Try.underlying29 hi0 hz0 hz1 hz2 rfl (by decide) v xs.length (i64s xs) hown' ⟨h, 0, none⟩ 1 1 [.int .i64 u] rfl (fun j u' hu => by
    cases j with
    | zero => simp only [List.getElem?_cons_zero, Option.some.injEq] at hu; subst hu; simpa [Addr.add] using hc
    | succ j => simp at hu) (one_one _ rfl) (by unfold maxLen; omega) (by omega) (Nat.le_trans hbase hgr.size)
  unfold Oper.wp
  simp only [execOp, ho, resolve, invoke, builtin, Sem.run_bind, Sem.run_pure, Result.andThen_ok, List.map_toArray, List.map_cons, List.map_nil, hs, hx, hrun]
  refine hK v' w' ?_ h3 ?_
  · unfold Own
    rw [i64s_snoc, List.length_append, i64s_length]
    exact h2
  · rcases h5 with h5 | h5
    · exact .inl h5
    · exact .inr ⟨_, h5, Nat.le_refl _⟩
theorem notWord_any (n : Int) (w : World) : Calls Try.prog 39 #[.int .i64 n] w fun e w' => e = .returned (.bool (!inB n 0 4294967295)) ∧ w = w' := by
  go_enter Try.func39, Try.ntmps39
  go_wp2_with (go_at_call 22; refine (within_any _ _ _ _).mono ?_; rintro e w' ⟨rfl, rfl⟩)
  go_ret
  exact ⟨rfl, rfl⟩
set_option maxHeartbeats 1000000 in
theorem findW_any (A : Option Addr) (n c B : Nat) (xs : List Int) (w : World) (h : Rd w B A n (i64s xs)) (hn : xs.length ≤ 2000000) :
    Calls Try.prog 27 #[.slice A n c, .func (.func 39) #[] #[]] w fun e w' => ∃ k : Int, e = .returned (.int .i64 k) ∧ Hid (decide (k ≥ 0) = !allWords xs) ∧ w = w' := by
  have hl := h.lenI
  obtain rfl : xs.length = n := hl.out
  clear hl
  go_enter Try.func27, Try.ntmps27
  go_wp2_with fail
  go_loop [8] (fun i => ∃ k : Nat, k ≤ xs.length ∧ i = .int .i64 k ∧ Hid (∀ j x, j < k → xs[j]? = some x → inB x 0 4294967295 = true)) (fun i => xs.length - (intOf i).toNat)
  case atStart => exact ⟨0, Nat.zero_le _, rfl, fun j x hj => absurd hj (by omega)⟩
  case round =>
    obtain ⟨k, hk, rfl, hv⟩ := hrel
    by_cases hlt : k < xs.length
    · obtain ⟨b, off, x, rfl, hbB, hx, hc⟩ := h.atI hlt
      have hlt' : (k : Int) < (xs.length : Int) := by omega
      clear h
      by_cases hp : inB x 0 4294967295 = true
      · have hvs : Hid (∀ j x, j < k + 1 → xs[j]? = some x → inB x 0 4294967295 = true) := by
          intro j y hj hy
          by_cases hjk : j < k
          · exact hv.out j y hjk hy
          · obtain rfl : j = k := by omega
            have := hx.out.symm.trans hy
            injection this with this
            rw [← this]; exact hp
        go_wp2_with fail
        refine (notWord_any _ _).mono ?_
        rintro e w2 ⟨rfl, rfl⟩
        rw [hp]
        clear hp
        go_wp2
        go_round
        case rel => exact ⟨k + 1, by omega, by go_num, hvs⟩
        case measure => simp [intOf]; omega
      · have hp' : inB x 0 4294967295 = false := by simpa using hp
        have hall := allWords_false hx.out hp'
        go_wp2_with fail
        refine (notWord_any _ _).mono ?_
        rintro e w2 ⟨rfl, rfl⟩
        rw [hp']
        have Hall := Lib.hid hall
        clear hp hp' hall
        go_wp2
        go_ret
        exact ⟨k, rfl, by show _ = _; rw [Hall.out]; simp, rfl⟩
    · have hall := allWords_true (xs := xs) (fun j x hx => hv.out j x (by have := (List.getElem?_eq_some_iff.1 hx).1; omega) hx)
      have Hall := Lib.hid hall
      clear hall
      go_wp2
      go_ret
      exact ⟨-1, rfl, by show _ = _; rw [Hall.out]; simp, rfl⟩
theorem hasBad_any (A : Option Addr) (n c B : Nat) (xs : List Int) (w : World) (h : Rd w B A n (i64s xs)) (hn : xs.length ≤ 2000000) :
    Calls Try.prog 38 #[.slice A n c, .func (.func 39) #[] #[]] w fun e w' => e = .returned (.bool (!allWords xs)) ∧ w = w' := by
  go_enter Try.func38, Try.ntmps38
  go_wp2_with fail
  refine (findW_any A n c B xs _ h hn).mono ?_
  rintro e w2 ⟨k, rfl, hk, rfl⟩
  go_wp2
  go_ret
  exact ⟨ret_bool hk.out, rfl⟩
theorem implAreWords_any (A : Option Addr) (n c B : Nat) (xs : List Int) (w : World) (h : Rd w B A n (i64s xs)) (hn : xs.length ≤ 1048576) :
    Calls Try.prog 24 #[.slice A n c] w fun e w' => e = .returned (.bool (areWords xs)) ∧ w = w' := by
  have hl := h.lenI
  obtain rfl : xs.length = n := hl.out
  clear hl
  by_cases h1 : 1 ≤ xs.length
  · by_cases h2 : xs.length ≤ 256
    · have hfin : Hid (areWords xs = allWords xs) := by show _ = _; rw [areWords, inB_mk ⟨by omega, by omega⟩]; rfl
      have h1' : (1 : Int) ≤ (xs.length : Int) := by omega
      have h2' : (xs.length : Int) ≤ 256 := by omega
      go_enter Try.func24, Try.ntmps24
      go_wp2_with fail
      refine (hasBad_any A xs.length c B xs _ h (by omega)).mono ?_
      rintro e w2 ⟨rfl, rfl⟩
      go_wp2
      go_ret
      exact ⟨ret_bool (by rw [hfin.out]; try simp), rfl⟩
    · have hfin : Hid (areWords xs = false) := by show _ = _; rw [areWords, inB_not (by omega)]; rfl
      have h1' : (1 : Int) ≤ (xs.length : Int) := by omega
      have h2' : ¬ (xs.length : Int) ≤ 256 := by omega
      clear h
      go_enter Try.func24, Try.ntmps24
      go_wp2_with fail
      go_ret
      exact ⟨ret_bool hfin.out.symm, rfl⟩
  · have hfin : Hid (areWords xs = false) := by show _ = _; rw [areWords, inB_not (by omega)]; rfl
    have h1' : ¬ (1 : Int) ≤ (xs.length : Int) := by omega
    clear h
    go_enter Try.func24, Try.ntmps24
    go_wp2_with fail
    go_ret
    exact ⟨ret_bool hfin.out.symm, rfl⟩
theorem getD_of {xs : List Int} {k : Nat} {x : Int} (h : xs[k]? = some x) : xs.getD k 0 = x := by rw [List.getD_eq_getElem?_getD, h]; rfl
end Go.Proofs.Ytlgpcojoonnlbaa
end
