/- Bytes that came in, and the reference's source of choices. -/
import Derived.Test.YtijafnejdibdlaaGreatDoorSeed
import Derived.Deep.RegionWith
import Derived.Laws.Bits64b
namespace Go.Proofs.YtijafnejdibdlaaGreatDoor
open Go.RowKit
def u8s (xs : List Int) : List Value := xs.map (Value.int .u8)
theorem u8s_length (xs : List Int) : (u8s xs).length = xs.length := by simp [u8s]
def Bytes (xs : List Int) : Prop := ∀ x ∈ xs, 0 ≤ x ∧ x < 256
theorem u8s_get? {xs : List Int} {k : Nat} {u : Value} (h : (u8s xs)[k]? = some u) : ∃ x, u = .int .u8 x ∧ xs[k]? = some x := by
  simp only [u8s, List.getElem?_map, Option.map_eq_some_iff] at h
  obtain ⟨x, hx, rfl⟩ := h
  exact ⟨x, rfl, hx⟩
theorem Rd.atB {w : World} {B n k : Nat} {A : Option Addr} {xs : List Int} (h : Rd w B A n (u8s xs)) (hb : Bytes xs) (hk : k < n) :
    ∃ (b off : Nat) (x : Int), A = some ⟨b, off, none⟩ ∧ b < B ∧ (0 ≤ x ∧ x < 256) ∧ w.cell? ⟨b, off + k, none⟩ = some (.int .u8 x) := by
  obtain ⟨b, off, u, hA, hlt, hu, hc⟩ := h.at_ hk
  obtain ⟨x, rfl, hx⟩ := u8s_get? hu
  exact ⟨b, off, x, hA, hlt, hb x (List.mem_of_getElem? hx), hc⟩
theorem and255 (x : Int) (h : 0 ≤ x ∧ x < 18446744073709551616) : 0 ≤ bits .and .u64 x 255 ∧ bits .and .u64 x 255 ≤ 255 := by
  obtain ⟨n, rfl⟩ : ∃ n : Nat, x = (n : Int) := ⟨x.toNat, by omega⟩
  have e := bits_and_u64_nat n 255 (by omega) (by omega)
  have e' : bits .and .u64 (n : Int) 255 = ((n &&& 255 : Nat) : Int) := e
  rw [e']
  have := Nat.and_le_right (n := n) (m := 255)
  omega
/-- The block of a source: the bytes, where it stands, and the number of its own sequence. -/
def SrcAt (w : World) (g : Nat) (A : Option Addr) (n c : Nat) (k s : Int) : Prop := w.heap[g]? = some (.cells #[.slice A n c, .int .i64 k, .int .u64 s] 76 (0, 0))
section
variable {w w' : World} {g n c : Nat} {A : Option Addr} {k s : Int}
theorem SrcAt.lt (h : SrcAt w g A n c k s) : g < w.heap.size := (Array.getElem?_eq_some_iff.1 h).1
theorem SrcAt.c0 (h : SrcAt w g A n c k s) : w.cell? ⟨g, 0, none⟩ = some (.slice A n c) := cell_of_row w g 0 _ 76 (0, 0) h
theorem SrcAt.c1 (h : SrcAt w g A n c k s) : w.cell? ⟨g, 1, none⟩ = some (.int .i64 k) := cell_of_row w g 1 _ 76 (0, 0) h
theorem SrcAt.c2 (h : SrcAt w g A n c k s) : w.cell? ⟨g, 2, none⟩ = some (.int .u64 s) := cell_of_row w g 2 _ 76 (0, 0) h
theorem SrcAt.fz (h : SrcAt w g A n c k s) (i : Nat) : w.frozen? ⟨g, i, none⟩ = false := by
  unfold SrcAt at h
  simp [World.frozen?, h]
theorem SrcAt.grown {row : Option Nat} (h : SrcAt w g A n c k s) (hb : w.grownBy w' row) (hg : some g ≠ row) : SrcAt w' g A n c k s := (hb.block g h.lt hg).trans h
theorem SrcAt.drew (h : SrcAt w g A n c k s) : SrcAt w.drew g A n c k s := h
theorem SrcAt.alloc (h : SrcAt w g A n c k s) (o : Obj) : SrcAt (w.alloc o) g A n c k s := (Below.heap_alloc w o g h.lt).trans h
theorem SrcAt.new (w : World) (A : Option Addr) (n c : Nat) (k s : Int) : SrcAt (w.alloc (.cells #[.slice A n c, .int .i64 k, .int .u64 s] 76)) w.heap.size A n c k s := heap_alloc_new w _
theorem SrcAt.below {B : Nat} (h : SrcAt w g A n c k s) (hb : Below B w w') (hg : g < B) : SrcAt w' g A n c k s := (hb.block g hg).trans h
theorem SrcAt.far (h : SrcAt w g A n c k s) {p : Addr} (hp : g ≠ p.block) (u : Value) : SrcAt (w.setCell p u) g A n c k s := (Below.heap_setCell w p u g hp).trans h
theorem SrcAt.set_k (h : SrcAt w g A n c k s) (k' : Int) : SrcAt (w.setCell ⟨g, 1, none⟩ (.int .i64 k')) g A n c k' s := by
  unfold SrcAt at h ⊢
  simp [World.setCell, Array.getElem?_modify, h]
theorem SrcAt.set_s (h : SrcAt w g A n c k s) (s' : Int) : SrcAt (w.setCell ⟨g, 2, none⟩ (.int .u64 s')) g A n c k s' := by
  unfold SrcAt at h ⊢
  simp [World.setCell, Array.getElem?_modify, h]
end
theorem rd_set {w : World} {B n g i : Nat} {A : Option Addr} {xs : List Value} (h : Rd w B A n xs) (hg : B ≤ g) (u : Value) : Rd (w.setCell ⟨g, i, none⟩ u) B A n xs := h.setCell (p := ⟨g, i, none⟩) hg u
theorem srcNext_any (A : Option Addr) (n c B g : Nat) (xs : List Int) (k s : Int) (w : World) (h : Rd w B A n (u8s xs)) (hb : Bytes xs) (hB : B ≤ g) (hg : SrcAt w g A n c k s) (hk : 0 ≤ k ∧ k ≤ 1000000) (hs : 0 ≤ s ∧ s < 18446744073709551616) :
    Calls Tryz.prog 51 #[.pointer (some ⟨g, 0, none⟩)] w fun e w' => ∃ x s', e = .returned (.int .i64 x) ∧ (0 ≤ x ∧ x < 256) ∧ SrcAt w' g A n c (k + 1) s' ∧ (0 ≤ s' ∧ s' < 18446744073709551616) ∧ w.grownBy w' (some g) := by
  obtain ⟨j, rfl⟩ : ∃ j : Nat, k = (j : Int) := ⟨k.toNat, by omega⟩
  have c0 := hg.c0
  have c1 := hg.c1
  have c2 := hg.c2
  have f1 := hg.fz 1
  have f2 := hg.fz 2
  go_enter Tryz.func51, Tryz.ntmps51
  by_cases hlt : j < n
  · obtain ⟨b, off, x, rfl, hlt2, hx, hc⟩ := h.atB hb hlt
    have hne : b ≠ g := by omega
    have hj : (j : Int) < (n : Int) := by omega
    have hle : (j : Int) + 1 ≤ (n : Int) := by omega
    go_wp2
    go_region
    go_wp2
    go_region
    go_wp2
    obtain ⟨s2, hs2e⟩ : ∃ s2, s2 = IntKind.u64.wrap (IntKind.u64.wrap (IntKind.u64.wrap (s * 6364136223846793005) + x) + 1442695040888963407) := ⟨_, rfl⟩
    rw [← hs2e]
    have hs2 : 0 ≤ s2 ∧ s2 < 18446744073709551616 := by rw [hs2e]; exact ⟨u64_ge _, u64_lt _⟩
    clear hs2e
    have hg2 : SrcAt (((w.setCell ⟨g, 1, none⟩ (.int .i64 ((j : Int) + 1))).setCell ⟨g, 2, none⟩ (.int .u64 s2)).drew.drew) g (some ⟨b, off, none⟩) n c ((j : Int) + 1) s2 := (hg.set_k _).set_s _
    have hgr : w.grownBy (((w.setCell ⟨g, 1, none⟩ (.int .i64 ((j : Int) + 1))).setCell ⟨g, 2, none⟩ (.int .u64 s2)).drew.drew) (some g) := grown_trans (grown_trans (grown_set _ _ _ _) (grown_set _ _ _ _)) (grown_trans (grown_drew' _ _) (grown_drew' _ _))
    generalize (((w.setCell ⟨g, 1, none⟩ (.int .i64 ((j : Int) + 1))).setCell ⟨g, 2, none⟩ (.int .u64 s2)).drew.drew) = w2 at hg2 hgr ⊢
    have d0 := hg2.c0
    have d1 := hg2.c1
    have hgr2 := hgr
    go_region
    go_wp2
    go_ret
    exact ⟨x, s2, rfl, hx, hg2, hs2, grown_trans hgr2 (grown_drew' _ _)⟩
  · have hj : ¬ (j : Int) < (n : Int) := by omega
    have hle : ¬ (j : Int) + 1 ≤ (n : Int) := by omega
    go_wp2
    go_region
    go_wp2
    obtain ⟨s2, hs2e⟩ : ∃ s2, s2 = IntKind.u64.wrap (IntKind.u64.wrap (IntKind.u64.wrap (s * 6364136223846793005)) + 1442695040888963407) := ⟨_, rfl⟩
    rw [← hs2e]
    have hs2 : 0 ≤ s2 ∧ s2 < 18446744073709551616 := by rw [hs2e]; exact ⟨u64_ge _, u64_lt _⟩
    clear hs2e
    have hg2 : SrcAt (((w.setCell ⟨g, 1, none⟩ (.int .i64 ((j : Int) + 1))).setCell ⟨g, 2, none⟩ (.int .u64 s2)).drew) g A n c ((j : Int) + 1) s2 := (hg.set_k _).set_s _
    have hgr : w.grownBy (((w.setCell ⟨g, 1, none⟩ (.int .i64 ((j : Int) + 1))).setCell ⟨g, 2, none⟩ (.int .u64 s2)).drew) (some g) := grown_trans (grown_trans (grown_set _ _ _ _) (grown_set _ _ _ _)) (grown_drew' _ _)
    generalize (((w.setCell ⟨g, 1, none⟩ (.int .i64 ((j : Int) + 1))).setCell ⟨g, 2, none⟩ (.int .u64 s2)).drew) = w2 at hg2 hgr ⊢
    have d0 := hg2.c0
    have d1 := hg2.c1
    have d2 := hg2.c2
    have hgr2 := hgr
    have h1 : 0 ≤ s2 / 1099511627776 ∧ s2 / 1099511627776 < 18446744073709551616 := by omega
    have h2 := and255 _ h1
    go_region
    go_wp2
    go_ret
    exact ⟨bits .and .u64 (s2 / 1099511627776) 255, s2, rfl, by omega, hg2, hs2, grown_trans hgr2 (grown_drew' _ _)⟩
end Go.Proofs.YtijafnejdibdlaaGreatDoor
