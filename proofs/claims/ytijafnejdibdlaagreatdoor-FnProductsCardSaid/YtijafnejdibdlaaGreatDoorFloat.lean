/- Floating-point numbers by their bits, one NaN for all: what each operation gives, and the walk's laws for operations whose NaNs the language leaves open. No program in sight. -/
import Derived.Test.YtijafnejdibdlaaGreatDoorBase
import Derived.Laws.FloatArith
import Derived.Laws.ComplexArith
namespace Go.Proofs.YtijafnejdibdlaaGreatDoor
open Go.RowKit

def isNaNB (k : FloatKind) (x : Nat) : Bool := (k.decode x).isNaN
/-- The one NaN. -/
def qnan : FloatKind → Nat
  | .f32 => 2143289344
  | .f64 => 9221120237041090561
/-- The bits of a number; of every NaN those of the one. -/
def cn (k : FloatKind) (x : Nat) : Nat := if isNaNB k x = true then qnan k else x
theorem qnan_isNaN (k : FloatKind) : isNaNB k (qnan k) = true := by cases k <;> decide
theorem cn_of_nan {k : FloatKind} {x : Nat} (h : isNaNB k x = true) : cn k x = qnan k := by simp [cn, h]
theorem cn_of_not {k : FloatKind} {x : Nat} (h : isNaNB k x = false) : cn k x = x := by simp [cn, h]
theorem isNaNB_cn (k : FloatKind) (x : Nat) : isNaNB k (cn k x) = isNaNB k x := by
  unfold cn
  split
  · rename_i h; rw [h]; exact qnan_isNaN k
  · rfl
theorem cn_cn (k : FloatKind) (x : Nat) : cn k (cn k x) = cn k x := by
  by_cases h : isNaNB k x = true
  · rw [cn_of_nan h, cn_of_nan (qnan_isNaN k)]
  · have h' : isNaNB k x = false := by simpa using h
    rw [cn_of_not h', cn_of_not h']
/-- Two words of one number: the same bits, or two NaNs. -/
theorem cn_eq {k : FloatKind} {x y : Nat} (h : cn k x = cn k y) : x = y ∨ isNaNB k x = true ∧ isNaNB k y = true := by
  have hh : isNaNB k x = isNaNB k y := by rw [← isNaNB_cn k x, h, isNaNB_cn]
  by_cases hx : isNaNB k x = true
  · exact .inr ⟨hx, hh ▸ hx⟩
  · have hx' : isNaNB k x = false := by simpa using hx
    rw [cn_of_not hx', cn_of_not (hh ▸ hx')] at h
    exact .inl h
theorem order_nan_l {k : FloatKind} {x : Nat} (h : isNaNB k x = true) (y : Nat) : k.format.order x y = none := by
  unfold Ieee.Format.order
  have : (k.format.read x).isNaN = true := h
  cases hd : k.format.read x <;> rw [hd] at this <;> simp [Ieee.Datum.isNaN] at this
  rfl
theorem order_nan_r {k : FloatKind} {y : Nat} (h : isNaNB k y = true) (x : Nat) : k.format.order x y = none := by
  unfold Ieee.Format.order
  have : (k.format.read y).isNaN = true := h
  cases hd : k.format.read y <;> rw [hd] at this <;> simp [Ieee.Datum.isNaN] at this
  cases k.format.read x <;> rfl
theorem order_cn (k : FloatKind) (x y : Nat) : k.format.order (cn k x) (cn k y) = k.format.order x y := by
  by_cases hx : isNaNB k x = true
  · rw [order_nan_l hx, order_nan_l (by rw [isNaNB_cn]; exact hx)]
  · by_cases hy : isNaNB k y = true
    · rw [order_nan_r hy, order_nan_r (by rw [isNaNB_cn]; exact hy)]
    · rw [cn_of_not (by simpa using hx), cn_of_not (by simpa using hy)]
theorem order_congr {k : FloatKind} {x x' y y' : Nat} (hx : cn k x = cn k x') (hy : cn k y = cn k y') : k.format.order x y = k.format.order x' y' := by
  rw [← order_cn k x y, hx, hy, order_cn]

theorem order_self {k : FloatKind} {x : Nat} (h : isNaNB k x = false) : k.format.order x x = some .eq := by
  have h' : (k.format.read x).isNaN = false := h
  unfold Ieee.Format.order
  cases hd : k.format.read x <;> rw [hd] at h' <;> simp [Ieee.Datum.isNaN] at h'
  all_goals simp [Ieee.Datum.order, compare, compareOfLessAndEq]
/-- What an operation gives: the bits, or the one NaN. -/
def fop (op : BinOp) (k : FloatKind) (x y : Nat) : Nat := (floatBits op k x y).getD (qnan k)
theorem floatBits_nan_l {op : BinOp} {k : FloatKind} {x : Nat} (h : isNaNB k x = true) (y : Nat) : floatBits op k x y = none := by
  have h' : (k.format.read x).isNaN = true := h
  cases hd : k.format.read x <;> rw [hd] at h' <;> simp [Ieee.Datum.isNaN] at h'
  cases op <;> simp [floatBits, Ieee.Format.add, Ieee.Format.sub, Ieee.Format.mul, Ieee.Format.div, hd, Ieee.Datum.sum, Ieee.Datum.product, Ieee.Datum.quotient]
theorem floatBits_nan_r {op : BinOp} {k : FloatKind} {y : Nat} (h : isNaNB k y = true) (x : Nat) : floatBits op k x y = none := by
  have h' : (k.format.read y).isNaN = true := h
  cases hd : k.format.read y <;> rw [hd] at h' <;> simp [Ieee.Datum.isNaN] at h'
  cases op <;> simp [floatBits, Ieee.Format.add, Ieee.Format.sub, Ieee.Format.mul, Ieee.Format.div, hd] <;> cases k.format.read x <;> simp [Ieee.Datum.sum, Ieee.Datum.product, Ieee.Datum.quotient, Ieee.Datum.opposite]
theorem fop_cn (op : BinOp) (k : FloatKind) (x y : Nat) : fop op k (cn k x) (cn k y) = fop op k x y := by
  unfold fop
  by_cases hx : isNaNB k x = true
  · rw [floatBits_nan_l hx, floatBits_nan_l (by rw [isNaNB_cn]; exact hx)]
  · by_cases hy : isNaNB k y = true
    · rw [floatBits_nan_r hy, floatBits_nan_r (by rw [isNaNB_cn]; exact hy)]
    · rw [cn_of_not (by simpa using hx), cn_of_not (by simpa using hy)]
theorem fop_congr {op : BinOp} {k : FloatKind} {x x' y y' : Nat} (hx : cn k x = cn k x') (hy : cn k y = cn k y') : fop op k x y = fop op k x' y' := by
  rw [← fop_cn op k x y, hx, hy, fop_cn]

theorem order_l {k : FloatKind} {r v : Nat} (h : cn k r = v) (y : Nat) : k.format.order r y = k.format.order v y := order_congr (by rw [← h, cn_cn]) rfl
theorem order_r {k : FloatKind} {r v : Nat} (h : cn k r = v) (y : Nat) : k.format.order y r = k.format.order y v := order_congr rfl (by rw [← h, cn_cn])
theorem fop_l {op : BinOp} {k : FloatKind} {r v : Nat} (h : cn k r = v) (y : Nat) : fop op k r y = fop op k v y := fop_congr (by rw [← h, cn_cn]) rfl
theorem fop_r {op : BinOp} {k : FloatKind} {r v : Nat} (h : cn k r = v) (y : Nat) : fop op k y r = fop op k y v := fop_congr rfl (by rw [← h, cn_cn])
/-- A word of a rung that is no NaN's. -/
theorem read_word_not_nan (f : Ieee.Format) (neg : Bool) (rung : Nat) (h : rung ≤ f.infRung) : (f.read (f.word neg rung)).isNaN = false := by
  have hlt := f.infRung_lt
  have hmod : f.word neg rung % f.signWeight = rung := by
    unfold Ieee.Format.word
    split
    · rw [Nat.add_mod_left]; exact Nat.mod_eq_of_lt (by omega)
    · exact Nat.mod_eq_of_lt (by omega)
  unfold Ieee.Format.read
  rw [hmod]
  dsimp only
  split
  · rfl
  · split
    · rfl
    · rw [if_pos (by omega)]; rfl
theorem nearest_not_nan (f : Ieee.Format) (neg : Bool) (mag : Nat) (place : Int) : (f.read (f.nearest neg mag place)).isNaN = false := by
  unfold Ieee.Format.nearest
  dsimp only
  split
  · exact read_word_not_nan f neg 0 (Nat.zero_le _)
  · exact read_word_not_nan f neg _ (Nat.min_le_right _ _)
theorem write_not_nan (f : Ieee.Format) (d : Ieee.Datum) (h : d.isNaN = false) : (f.read (f.write d)).isNaN = false := by
  cases d with
  | number neg mag place => exact nearest_not_nan f neg mag place
  | infinity neg => exact read_word_not_nan f neg _ (Nat.le_refl _)
  | nan neg fraction => cases h
theorem sum_not_nan {a b d : Ieee.Datum} (h : a.sum b = some d) : d.isNaN = false := by
  cases a <;> cases b <;> simp [Ieee.Datum.sum] at h
  all_goals first | (subst h; rfl) | (obtain ⟨_, rfl⟩ := h; rfl)
theorem product_not_nan {a b d : Ieee.Datum} (h : a.product b = some d) : d.isNaN = false := by
  cases a <;> cases b <;> simp [Ieee.Datum.product] at h
  all_goals first | (subst h; rfl) | (obtain ⟨_, rfl⟩ := h; rfl)
theorem quotient_not_nan {n : Nat} {a b d : Ieee.Datum} (h : a.quotient n b = some d) : d.isNaN = false := by
  cases a <;> cases b <;> simp [Ieee.Datum.quotient] at h
  all_goals first | (subst h; rfl) | (obtain ⟨_, rfl⟩ := h; rfl) | skip
  split at h
  · split at h
    · cases h
    · injection h with h; subst h; rfl
  · injection h with h; subst h; rfl
theorem floatBits_not_nan {op : BinOp} {k : FloatKind} {x y r : Nat} (h : floatBits op k x y = some r) : isNaNB k r = false := by
  unfold floatBits at h
  unfold isNaNB FloatKind.decode
  cases op <;> simp only at h <;> first | (cases h; done) | skip
  · obtain ⟨d, hd, rfl⟩ := Option.map_eq_some_iff.1 h; exact write_not_nan _ _ (sum_not_nan hd)
  · obtain ⟨d, hd, rfl⟩ := Option.map_eq_some_iff.1 h; exact write_not_nan _ _ (sum_not_nan hd)
  · obtain ⟨d, hd, rfl⟩ := Option.map_eq_some_iff.1 h; exact write_not_nan _ _ (product_not_nan hd)
  · obtain ⟨d, hd, rfl⟩ := Option.map_eq_some_iff.1 h; exact write_not_nan _ _ (quotient_not_nan hd)
theorem cn_fop (op : BinOp) (k : FloatKind) (x y : Nat) : cn k (fop op k x y) = fop op k x y := by
  unfold fop
  cases h : floatBits op k x y with
  | none => exact cn_of_nan (qnan_isNaN k)
  | some r => exact cn_of_not (floatBits_not_nan h)

theorem cut_nan (k : FloatKind) (t : Nat) (q : Question) (h : q.cut t = (match k with | .f32 => (t % 2) * 2 ^ 31 + 0x7f800000 + 1 + (t / 2) % (2 ^ 23 - 1) | .f64 => (t % 2) * 2 ^ 63 + 0x7ff0000000000000 + 1 + (t / 2) % (2 ^ 52 - 1))) : isNaNB k (q.cut t) = true := by
  rw [h]
  unfold isNaNB FloatKind.decode
  cases k
  · have h1 : (t / 2) % (2 ^ 23 - 1) < 2 ^ 23 - 1 := Nat.mod_lt _ (by omega)
    have h2 : t % 2 < 2 := Nat.mod_lt _ (by omega)
    generalize (t / 2) % (2 ^ 23 - 1) = m at h1
    generalize t % 2 = s at h2
    have hm : (s * 2 ^ 31 + 0x7f800000 + 1 + m) % Ieee.Format.signWeight Ieee.single = 0x7f800000 + 1 + m := by
      show (s * 2 ^ 31 + 0x7f800000 + 1 + m) % 2 ^ 31 = _
      omega
    show (Ieee.Format.read Ieee.single _).isNaN = true
    unfold Ieee.Format.read
    dsimp only
    rw [hm]
    have e1 : Ieee.Format.binade Ieee.single = 8388608 := rfl
    have e2 : Ieee.Format.infRung Ieee.single = 2139095040 := rfl
    rw [e1, e2, if_neg (by omega), if_neg (by omega), if_neg (by omega)]
    rfl
  · have h1 : (t / 2) % (2 ^ 52 - 1) < 2 ^ 52 - 1 := Nat.mod_lt _ (by omega)
    have h2 : t % 2 < 2 := Nat.mod_lt _ (by omega)
    generalize (t / 2) % (2 ^ 52 - 1) = m at h1
    generalize t % 2 = s at h2
    have hm : (s * 2 ^ 63 + 0x7ff0000000000000 + 1 + m) % Ieee.Format.signWeight Ieee.double = 0x7ff0000000000000 + 1 + m := by
      show (s * 2 ^ 63 + 0x7ff0000000000000 + 1 + m) % 2 ^ 63 = _
      omega
    show (Ieee.Format.read Ieee.double _).isNaN = true
    unfold Ieee.Format.read
    dsimp only
    rw [hm]
    have e1 : Ieee.Format.binade Ieee.double = 4503599627370496 := rfl
    have e2 : Ieee.Format.infRung Ieee.double = 9218868437227405312 := rfl
    rw [e1, e2, if_neg (by omega), if_neg (by omega), if_neg (by omega)]
    rfl
/-- The four operations. -/
def isArith : BinOp → Bool
  | .add | .sub | .mul | .quo => true
  | _ => false
theorem run_fop {P : Program} (w : World) {op : BinOp} (hop : isArith op = true) (t : TypeId) (k : FloatKind) (x y : Nat) :
    ∃ r q, (binOp op t (.float k x) (.float k y)).run P w = .ok (.float k r) (w.drewN q) ∧ cn k r = fop op k x y := by
  cases h : floatBits op k x y with
  | some r => exact ⟨r, 0, run_float_arith w op t k x y r h, by unfold fop; rw [h, cn_of_not (floatBits_not_nan h)]; rfl⟩
  | none =>
    refine ⟨(Question.nanBits k x y).cut (w.tape w.drawn (.nanBits k x y)), 1, ?_, ?_⟩
    · unfold floatBits at h
      cases op <;> simp only [isArith] at hop <;> first | (cases hop; done) | skip
      all_goals simp only at h; simp [binOp, Op.floatArith, h, Question.forced]; rfl
    · rw [cn_of_nan]
      · unfold fop; rw [h]; rfl
      · exact cut_nan k _ _ (by cases k <;> rfl)

/-- AN OPERATION ON FLOATS: the walk goes on with some bits that stand for what the operation gives; it may have drawn. -/
theorem wpList_fop {P : Program} (w : World) {ops : Array Oper} {rest : List Oper} {o : Oper} {a : Act} {Q : Exit → Act → World → Prop}
    (hg : o.guard = none) (op : BinOp) (t t' : TypeId) (s x : Operand) (hop : o.op = Op.binOp op t s x t') (har : isArith op = true) (k : FloatKind) (fa fb : Nat) (hs : a.eval s = .float k fa) (hx : a.eval x = .float k fb)
    (h : ∀ r q, Hid (cn k r = fop op k fa fb) → wpList P ops Q rest (a.put o.dst (.float k r)) (w.drewN q)) : wpList P ops Q (o :: rest) a w := by
  refine wpList_plain hg fun K hK => ?_
  obtain ⟨r, q, hrun, hr⟩ := run_fop (P := P) w har t k fa fb
  unfold Oper.wp
  have hgd : (eqGuard op t s x (.float k fa) (.float k fb)).run P w = .ok () w := by
    cases op <;> simp only [isArith] at har <;> first | (cases har; done) | rfl
  simp [execOp, hop, hs, hx, hrun, hgd, Result.andThen]
  exact hK _ _ (h r q hr)

def f32s (xs : List Nat) : List Value := xs.map (Value.float .f32)
@[simp] theorem f32s_length (xs : List Nat) : (f32s xs).length = xs.length := by simp [f32s]
theorem f32s_snoc (xs : List Nat) (x : Nat) : f32s (xs ++ [x]) = f32s xs ++ [.float .f32 x] := by simp [f32s]
theorem f32s_get? {xs : List Nat} {k : Nat} {u : Value} (h : (f32s xs)[k]? = some u) : ∃ x, u = .float .f32 x ∧ xs[k]? = some x := by
  simp only [f32s, List.getElem?_map, Option.map_eq_some_iff] at h
  obtain ⟨x, hx, rfl⟩ := h
  exact ⟨x, rfl, hx⟩
theorem Rd.atF {w : World} {B n k : Nat} {A : Option Addr} {xs : List Nat} (h : Rd w B A n (f32s xs)) (hk : k < n) :
    ∃ (b off x : Nat), A = some ⟨b, off, none⟩ ∧ b < B ∧ Hid (xs[k]? = some x) ∧ w.cell? ⟨b, off + k, none⟩ = some (.float .f32 x) := by
  obtain ⟨b, off, u, hA, hb, hu, hc⟩ := h.at_ hk
  obtain ⟨x, rfl, hx⟩ := f32s_get? hu
  exact ⟨b, off, x, hA, hb, hx, hc⟩
theorem Rd.lenF {w : World} {B n : Nat} {A : Option Addr} {xs : List Nat} (h : Rd w B A n (f32s xs)) : Hid (xs.length = n) := by
  have := h.len; rw [f32s_length] at this; exact this
theorem Own.shapeF {w : World} {base : Nat} {e : TypeId} {v : Value} {xs : List Nat} (h : Own w base e v (f32s xs)) : ∃ A c, v = .slice A xs.length c ∧ Hid (xs.length ≤ c ∧ c ≤ maxLen) := by
  obtain ⟨A, c, rfl, h1, h2⟩ := h.shape
  exact ⟨A, c, by rw [f32s_length], by rw [f32s_length] at h1; exact ⟨h1, h2⟩⟩
theorem Own.rdF {w : World} {base : Nat} {e : TypeId} {A : Option Addr} {n c : Nat} {xs : List Nat} (h : Own w base e (.slice A n c) (f32s xs)) : Rd w w.heap.size A xs.length (f32s xs) := by
  have := h.rd.2
  rwa [f32s_length] at this

theorem run_store_float' (P : Program) (w : World) (a : Addr) (m : Mode) (k : FloatKind) (b : Nat) : (store a (.float k b) m).run P w = stored P w a (.float k b) m := run_store P w a _ m rfl

/-- 'float64(x)' of a float32. -/
def widen (x : Nat) : Nat :=
  match FloatKind.f32.decode x with
  | .nan .. => qnan .f64
  | d => FloatKind.f64.encode d
theorem widen_num {q z : Nat} (hq : q ≤ 1149) (hz : z < 9007199254740992) : min (q * 4503599627370496 + z) 9218868437227405312 < 9218868437227405312 :=
  Nat.lt_of_le_of_lt (Nat.min_le_left _ _) (by omega)
theorem widen_fits (x : Nat) (s : Bool) (m : Nat) (e : Int) (h : FloatKind.f32.decode x = .number s m e) : (FloatKind.f64.decode (FloatKind.f64.encode (.number s m e))).isInfinity = false := by
  have hm : m < 2 ^ 24 ∧ -149 ≤ e ∧ e ≤ 104 := by
    have h' : Ieee.Format.read Ieee.single x = .number s m e := h
    unfold Ieee.Format.read at h'
    have e1 : Ieee.Format.binade Ieee.single = 8388608 := rfl
    have e2 : Ieee.Format.infRung Ieee.single = 2139095040 := rfl
    have e3 : Ieee.Format.leastPlace Ieee.single = -149 := by decide
    rw [e1, e2, e3] at h'
    dsimp only at h'
    generalize x % Ieee.Format.signWeight Ieee.single = r at h'
    split at h'
    · injection h' with _ h2 h3; omega
    · split at h'
      · injection h' with _ h2 h3; omega
      · split at h' <;> cases h'
  show (Ieee.Format.read Ieee.double (Ieee.Format.nearest Ieee.double s m e)).isInfinity = false
  have key : ∀ rung, rung < Ieee.Format.infRung Ieee.double → (Ieee.Format.read Ieee.double (Ieee.Format.word Ieee.double s rung)).isInfinity = false := by
    intro rung hr
    have hlt := Ieee.Format.infRung_lt Ieee.double
    have hmod : Ieee.Format.word Ieee.double s rung % Ieee.Format.signWeight Ieee.double = rung := by
      unfold Ieee.Format.word
      split
      · rw [Nat.add_mod_left]; exact Nat.mod_eq_of_lt (by omega)
      · exact Nat.mod_eq_of_lt (by omega)
    unfold Ieee.Format.read
    rw [hmod]
    dsimp only
    split
    · rfl
    · first | rfl | (rw [if_pos hr]; rfl)
  unfold Ieee.Format.nearest
  dsimp only
  by_cases h0 : m = 0
  · rw [if_pos h0]; exact key 0 (by decide)
  · rw [if_neg h0]
    have hlog : m.log2 ≤ 23 := by
      have := (Nat.log2_lt h0).2 hm.1
      omega
    have e3 : Ieee.Format.leastPlace Ieee.double = -1074 := by decide
    have e4 : Ieee.Format.binade Ieee.double = 4503599627370496 := rfl
    have e5 : (Ieee.double.fractionBits : Int) = 52 := rfl
    have e2 : Ieee.Format.infRung Ieee.double = 9218868437227405312 := rfl
    rw [e3, e4, e5]
    have hlast : max (e + (m.log2 : Int) - 52) (-1074) = e + (m.log2 : Int) - 52 := by omega
    rw [hlast]
    have hd : (e + (m.log2 : Int) - 52 - e).toNat = 0 := by omega
    have hu : (e - (e + (m.log2 : Int) - 52)).toNat = 52 - m.log2 := by omega
    rw [hd, hu]
    have hcut : Ieee.Toward.even.cut s (m <<< (52 - m.log2)) 0 = m <<< (52 - m.log2) := by
      unfold Ieee.Toward.cut
      simp [Nat.mod_one]
    rw [hcut]
    have hsh : m <<< (52 - m.log2) < 2 ^ 53 := by
      rw [Nat.shiftLeft_eq]
      have h1 : m < 2 ^ (m.log2 + 1) := Nat.lt_log2_self
      calc m * 2 ^ (52 - m.log2) < 2 ^ (m.log2 + 1) * 2 ^ (52 - m.log2) := Nat.mul_lt_mul_of_pos_right h1 (Nat.two_pow_pos _)
        _ = 2 ^ 53 := by rw [← Nat.pow_add]; congr 1; omega
    have hq : (e + (m.log2 : Int) - 52 - -1074).toNat ≤ 1149 := by omega
    have hz : m <<< (52 - m.log2) < 9007199254740992 := hsh
    apply key
    rw [e2]
    exact widen_num hq hz
theorem widen_nan {x : Nat} (h : isNaNB .f32 x = true) : widen x = qnan .f64 := by
  have h' : (FloatKind.f32.decode x).isNaN = true := h
  unfold widen
  cases hd : FloatKind.f32.decode x with
  | number s m e => rw [hd] at h'; cases h'
  | infinity s => rw [hd] at h'; cases h'
  | nan s f => rfl
theorem widen_cn (x : Nat) : widen (cn .f32 x) = widen x := by
  by_cases hx : isNaNB .f32 x = true
  · rw [cn_of_nan hx, widen_nan hx, widen_nan (qnan_isNaN .f32)]
  · rw [cn_of_not (by simpa using hx)]
theorem run_widen {P : Program} (w : World) (src dst : TypeId) (x : Nat) (hs : (P.underlying src).isSome = true) (hd : P.underlying dst = some (.float .f64)) :
    ∃ r q, (convert src dst (.float .f32 x)).run P w = .ok (.float .f64 r) (w.drewN q) ∧ cn .f64 r = widen x := by
  obtain ⟨u, hs'⟩ := Option.isSome_iff_exists.1 hs
  cases hx : FloatKind.f32.decode x with
  | number s m e =>
    have hfit := widen_fits x s m e hx
    refine ⟨FloatKind.f64.encode (.number s m e), 0, ?_, ?_⟩
    · exact run_convert_float_float w src dst .f32 .f64 x _ hs hd (by unfold floatToFloatBits; rw [if_neg (by decide), hx]; simp only; rw [if_neg (by rw [hfit]; decide)])
    · unfold widen; rw [hx]; exact cn_of_not (write_not_nan _ _ rfl)
  | infinity s =>
    refine ⟨FloatKind.f64.encode (.infinity s), 0, ?_, ?_⟩
    · exact run_convert_float_float w src dst .f32 .f64 x _ hs hd (by unfold floatToFloatBits; rw [if_neg (by decide), hx])
    · unfold widen; rw [hx]; exact cn_of_not (write_not_nan _ _ rfl)
  | nan s f =>
    refine ⟨(Question.nanConv .f64 x).cut (w.tape w.drawn (.nanConv .f64 x)), 1, ?_, ?_⟩
    · cases u <;> simp [convert, run_underlying hs', run_underlying hd, Conv.floatToFloat, hx, Question.forced] <;> rfl
    · rw [cn_of_nan (cut_nan .f64 _ _ rfl)]; unfold widen; rw [hx]
/-- The same as an equation: the bits that come, and how many draws. -/
def widV (w : World) (x : Nat) : Nat :=
  match FloatKind.f32.decode x with
  | .nan .. => (Question.nanConv .f64 x).cut (w.tape w.drawn (.nanConv .f64 x))
  | d => FloatKind.f64.encode d
def widD (x : Nat) : Nat :=
  match FloatKind.f32.decode x with
  | .nan .. => 1
  | _ => 0
theorem widV_cn (w : World) (x : Nat) : cn .f64 (widV w x) = widen x := by
  unfold widV widen
  cases hx : FloatKind.f32.decode x with
  | number s m e => exact cn_of_not (write_not_nan _ _ rfl)
  | infinity s => exact cn_of_not (write_not_nan _ _ rfl)
  | nan s f => exact cn_of_nan (cut_nan .f64 _ _ rfl)
theorem widen_congr {x y : Nat} (h : cn .f32 x = cn .f32 y) : widen x = widen y := by rw [← widen_cn x, h, widen_cn]
theorem run_widV {P : Program} (src dst : TypeId) (hs : (P.underlying src).isSome = true) (hd : P.underlying dst = some (.float .f64)) (w : World) (x : Nat) :
    (convert src dst (.float .f32 x)).run P w = .ok (.float .f64 (widV w x)) (w.drewN (widD x)) := by
  obtain ⟨u, hs'⟩ := Option.isSome_iff_exists.1 hs
  unfold widV widD
  cases hx : FloatKind.f32.decode x with
  | number s m e =>
    have hfit := widen_fits x s m e hx
    exact run_convert_float_float w src dst .f32 .f64 x _ hs hd (by unfold floatToFloatBits; rw [if_neg (by decide), hx]; simp only; rw [if_neg (by rw [hfit]; decide)])
  | infinity s => exact run_convert_float_float w src dst .f32 .f64 x _ hs hd (by unfold floatToFloatBits; rw [if_neg (by decide), hx])
  | nan s f => cases u <;> simp [convert, run_underlying hs', run_underlying hd, Conv.floatToFloat, hx, Question.forced] <;> rfl
theorem run_widen_num {P : Program} (src dst : TypeId) (hs : (P.underlying src).isSome = true) (hd : P.underlying dst = some (.float .f64)) (w : World) (x : Nat) (hx : isNaNB .f32 x = false) :
    (convert src dst (.float .f32 x)).run P w = .ok (.float .f64 (widen x)) w := by
  have h := run_widV (P := P) src dst hs hd w x
  have h' : (FloatKind.f32.decode x).isNaN = false := hx
  unfold widV widD at h
  unfold widen
  cases hd : FloatKind.f32.decode x with
  | number s m e => rw [hd] at h; exact h
  | infinity s => rw [hd] at h; exact h
  | nan s f => rw [hd] at h'; cases h'
theorem wpList_widen {P : Program} (w : World) {ops : Array Oper} {rest : List Oper} {o : Oper} {a : Act} {Q : Exit → Act → World → Prop}
    (hg : o.guard = none) (src dst : TypeId) (s : Operand) (hop : o.op = Op.convert src dst s) (hsr : (P.underlying src).isSome = true) (hd : P.underlying dst = some (.float .f64)) (fa : Nat) (hs : a.eval s = .float .f32 fa)
    (h : ∀ r q, Hid (cn .f64 r = widen fa) → wpList P ops Q rest (a.put o.dst (.float .f64 r)) (w.drewN q)) : wpList P ops Q (o :: rest) a w := by
  refine wpList_plain hg fun K hK => ?_
  obtain ⟨r, q, hrun, hr⟩ := run_widen (P := P) w src dst fa hsr hd
  unfold Oper.wp
  simp [execOp, hop, hs, hrun, Result.andThen]
  exact hK _ _ (h r q hr)
end Go.Proofs.YtijafnejdibdlaaGreatDoor
