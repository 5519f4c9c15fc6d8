/- Plain lemmas on numbers written in digits to the base 65536. -/
import Derived.Laws.BitsLemmas
namespace Go.Proofs.Ytmllbdiljjimmaa

def toD : List Nat → Nat
  | [] => 0
  | x :: xs => x + 65536 * toD xs

def Digs (ds : List Nat) : Prop := ∀ x ∈ ds, x < 65536
theorem Digs.set {ds : List Nat} (h : Digs ds) (i : Nat) {y : Nat} (hy : y < 65536) : Digs (ds.set i y) := by
  intro x hx
  rcases List.mem_or_eq_of_mem_set hx with h1 | h1
  · exact h x h1
  · subst h1; exact hy
theorem Digs.get {ds : List Nat} (h : Digs ds) {i x : Nat} (hx : ds[i]? = some x) : x < 65536 := h x (List.mem_of_getElem? hx)
theorem Digs.take {ds : List Nat} (h : Digs ds) (k : Nat) : Digs (ds.take k) := fun x hx => h x (List.mem_of_mem_take hx)
theorem Digs.zero (n : Nat) : Digs (List.replicate n 0) := fun x hx => by rw [List.eq_of_mem_replicate hx]; decide

theorem toD_lt : ∀ {ds : List Nat}, Digs ds → toD ds < 65536 ^ ds.length
  | [], _ => by simp [toD]
  | x :: xs, h => by
    have h1 := toD_lt (ds := xs) (fun y hy => h y (List.mem_cons_of_mem _ hy))
    have h2 := h x (List.mem_cons_self)
    rw [toD, List.length_cons, Nat.pow_succ]
    generalize 65536 ^ xs.length = P at *
    have : 65536 * toD xs + 65536 ≤ P * 65536 := by
      rw [Nat.mul_comm P, ← Nat.mul_succ]
      exact Nat.mul_le_mul_left _ h1
    omega
theorem toD_set : ∀ (ds : List Nat) (i x y : Nat), ds[i]? = some x → toD (ds.set i y) + x * 65536 ^ i = toD ds + y * 65536 ^ i
  | [], i, x, y, h => by simp at h
  | a :: ds, 0, x, y, h => by simp at h; subst h; simp [toD]; omega
  | a :: ds, i + 1, x, y, h => by
    have ih := toD_set ds i x y (by simpa using h)
    simp only [List.set_cons_succ, toD, Nat.pow_succ]
    have e1 : x * (65536 ^ i * 65536) = 65536 * (x * 65536 ^ i) := by rw [← Nat.mul_assoc, Nat.mul_comm]
    have e2 : y * (65536 ^ i * 65536) = 65536 * (y * 65536 ^ i) := by rw [← Nat.mul_assoc, Nat.mul_comm]
    rw [e1, e2]
    generalize x * 65536 ^ i = X at *
    generalize y * 65536 ^ i = Y at *
    omega
theorem toD_split : ∀ (ds : List Nat) (k : Nat), k ≤ ds.length → toD ds = toD (ds.take k) + 65536 ^ k * toD (ds.drop k)
  | ds, 0, _ => by simp [toD]
  | [], k + 1, h => by simp at h
  | a :: ds, k + 1, h => by
    have ih := toD_split ds k (by simpa using h)
    rw [List.take_succ_cons, List.drop_succ_cons, toD, toD, ih, Nat.pow_succ, Nat.mul_add, Nat.mul_comm (65536 ^ k) 65536, Nat.mul_assoc]
    omega
theorem toD_take {ds : List Nat} {k x : Nat} (hx : ds[k]? = some x) : toD (ds.take (k + 1)) = toD (ds.take k) + 65536 ^ k * x := by
  have hk : k < ds.length := (List.getElem?_eq_some_iff.1 hx).1
  rw [toD_split (ds.take (k + 1)) k (by rw [List.length_take]; omega)]
  have e1 : (ds.take (k + 1)).take k = ds.take k := by rw [List.take_take]; congr 1; omega
  have e2 : (ds.take (k + 1)).drop k = [x] := by
    rw [List.take_add_one, hx, Option.toList_some, List.drop_append, List.length_take, List.drop_eq_nil_of_le (by rw [List.length_take]; omega), show k - min k ds.length = 0 by omega]; rfl
  rw [e1, e2]; simp [toD]
theorem toD_zero : ∀ n, toD (List.replicate n 0) = 0
  | 0 => rfl
  | n + 1 => by rw [List.replicate_succ, toD, toD_zero n]

/-- The digits are the same from k on. -/
def SameFrom (as bs : List Nat) (k : Nat) : Prop := ∀ j, k ≤ j → as[j]? = bs[j]?
theorem SameFrom.drop {as bs : List Nat} {k : Nat} (h : SameFrom as bs k) : as.drop k = bs.drop k := by
  apply List.ext_getElem?
  intro j
  rw [List.getElem?_drop, List.getElem?_drop]
  exact h (k + j) (by omega)
theorem less_at {as bs : List Nat} (ha : Digs as) (hb : Digs bs) {k x y : Nat} (h : SameFrom as bs (k + 1)) (hx : as[k]? = some x) (hy : bs[k]? = some y) (hne : x ≠ y) : decide (toD as < toD bs) = decide (x < y) := by
  have hk : k < as.length := (List.getElem?_eq_some_iff.1 hx).1
  have hk2 : k < bs.length := (List.getElem?_eq_some_iff.1 hy).1
  rw [toD_split as (k + 1) (by omega), toD_split bs (k + 1) (by omega), h.drop, toD_take hx, toD_take hy]
  have l1 := toD_lt (ha.take k)
  have l2 := toD_lt (hb.take k)
  rw [List.length_take, Nat.min_eq_left (by omega)] at l1 l2
  generalize toD (bs.drop (k + 1)) = R at *
  generalize toD (as.take k) = A at *
  generalize toD (bs.take k) = B at *
  generalize 65536 ^ (k + 1) * R = Z at *
  generalize 65536 ^ k = P at *
  rw [decide_eq_decide]
  rcases Nat.lt_or_ge x y with hlt | hge
  · have : P * (x + 1) ≤ P * y := Nat.mul_le_mul_left _ hlt
    rw [Nat.mul_add, Nat.mul_one] at this
    constructor
    · intro _; exact hlt
    · intro _; omega
  · have hlt : y < x := by omega
    have : P * (y + 1) ≤ P * x := Nat.mul_le_mul_left _ hlt
    rw [Nat.mul_add, Nat.mul_one] at this
    constructor
    · intro _; omega
    · intro _; omega
theorem less_none {as bs : List Nat} (h : SameFrom as bs 0) : decide (toD as < toD bs) = false := by
  have : as = bs := by have := h.drop; simpa using this
  subst this
  simp

theorem plus_step {T N x y s c c' P : Nat} (h : T + c * P = N) (hs : s + c' * 65536 = x + y + c) : (T + P * s) + c' * (P * 65536) = N + P * x + P * y := by
  have e : P * (s + c' * 65536) = P * (x + y + c) := by rw [hs]
  rw [Nat.mul_add, Nat.mul_add, Nat.mul_add, Nat.mul_comm P c, ← Nat.mul_assoc, Nat.mul_comm P c', Nat.mul_assoc] at e
  omega
theorem minus_step {T A B x y s c c' P : Nat} (h : T + B = A + c * P) (hs : s + y + c = x + c' * 65536) : (T + P * s) + (B + P * y) = (A + P * x) + c' * (P * 65536) := by
  have e : P * (s + y + c) = P * (x + c' * 65536) := by rw [hs]
  rw [Nat.mul_add, Nat.mul_add, Nat.mul_add, Nat.mul_comm P c, ← Nat.mul_assoc P c' 65536, Nat.mul_comm P c', Nat.mul_assoc c' P 65536] at e
  omega
end Go.Proofs.Ytmllbdiljjimmaa
