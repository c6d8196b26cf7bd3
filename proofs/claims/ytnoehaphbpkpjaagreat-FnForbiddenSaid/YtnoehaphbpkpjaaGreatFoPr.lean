/- Contracts and lemmas for the statements of this seat, written for this claim; each theorem states its own conditions. -/
import Derived.Test.YtnoehaphbpkpjaaGreatFoAdd
import Derived.Test.YtnoehaphbpkpjaaGreatFoSx
set_option linter.unusedVariables false
set_option linter.unusedSimpArgs false
namespace Go.Proofs.YtnoehaphbpkpjaaGreat
open Go.RowKit
/-- x is reached from i in just so many steps -/
def pa (E : Nat → Nat → Prop) : Nat → Nat → Nat → Prop
  | 0, i, x => i = x
  | s + 1, i, x => ∃ k, E i k ∧ pa E s k x
theorem pa_add {E : Nat → Nat → Prop} : ∀ (s t i x : Nat), pa E (s + t) i x ↔ ∃ y, pa E s i y ∧ pa E t y x
  | 0, t, i, x => by simp [pa]
  | s + 1, t, i, x => by
    rw [show s + 1 + t = (s + t) + 1 by omega]
    constructor
    · rintro ⟨k, h1, h2⟩
      obtain ⟨y, h3, h4⟩ := (pa_add s t k x).1 h2
      exact ⟨y, ⟨k, h1, h3⟩, h4⟩
    · rintro ⟨y, ⟨k, h1, h3⟩, h4⟩
      exact ⟨k, h1, (pa_add s t k x).2 ⟨y, h3, h4⟩⟩
theorem pa_one {E : Nat → Nat → Prop} {i x : Nat} : pa E 1 i x ↔ E i x := by
  constructor
  · rintro ⟨k, h, rfl⟩; exact h
  · intro h; exact ⟨x, h, rfl⟩
theorem pa_right {E : Nat → Nat → Prop} (s i x : Nat) : pa E (s + 1) i x ↔ ∃ y, pa E s i y ∧ E y x := by
  rw [pa_add]
  constructor
  · rintro ⟨y, h1, h2⟩; exact ⟨y, h1, pa_one.1 h2⟩
  · rintro ⟨y, h1, h2⟩; exact ⟨y, h1, pa_one.2 h2⟩
theorem pa_in {E : Nat → Nat → Prop} {n : Nat} (hE : ∀ i k, E i k → k < n) : ∀ (s i x : Nat), i < n → pa E s i x → x < n
  | 0, i, x, hi, h => by cases h; exact hi
  | s + 1, i, x, _, ⟨k, h1, h2⟩ => pa_in hE s k x (hE i k h1) h2
theorem count_le {p q : Nat → Bool} : ∀ (l : List Nat), (∀ x ∈ l, p x = true → q x = true) → l.countP p ≤ l.countP q := fun l h => List.countP_mono_left h
theorem count_eq {p q : Nat → Bool} : ∀ (l : List Nat), (∀ x ∈ l, p x = true → q x = true) → l.countP q ≤ l.countP p → ∀ x ∈ l, q x = true → p x = true
  | [], _, _, x, hx, _ => by simp at hx
  | y :: l, h, hc, x, hx, hq => by
    have hl : ∀ x ∈ l, p x = true → q x = true := fun x hx => h x (List.mem_cons_of_mem _ hx)
    have h1 := count_le l hl
    rw [List.countP_cons, List.countP_cons] at hc
    have hy := h y (List.mem_cons_self ..)
    rcases List.mem_cons.1 hx with e | hx
    · subst e
      rw [hq] at hc
      cases hp : p x
      · rw [hp] at hc; simp at hc; omega
      · rfl
    · refine count_eq l hl ?_ x hx hq
      cases hpy : p y
      · rw [hpy] at hc; simp at hc; omega
      · rw [hpy, hy hpy] at hc; simpa using hc
def Full (E : Nat → Nat → Prop) (n s : Nat) : Prop := ∀ i x, i < n → x < n → pa E s i x
theorem full_succ {E : Nat → Nat → Prop} {n s : Nat} (hE : ∀ i k, E i k → i < n ∧ k < n) (hs : 1 ≤ s) (h : Full E n s) : Full E n (s + 1) := by
  intro i x hi hx
  obtain ⟨s, rfl⟩ : ∃ t, s = t + 1 := ⟨s - 1, by omega⟩
  obtain ⟨y, _, h2⟩ := (pa_right s i x).1 (h i x hi hx)
  exact (pa_right (s + 1) i x).2 ⟨y, h i y hi (hE y x h2).1, h2⟩
theorem full_add {E : Nat → Nat → Prop} {n s : Nat} (hE : ∀ i k, E i k → i < n ∧ k < n) (hs : 1 ≤ s) (h : Full E n s) : ∀ t, Full E n (s + t)
  | 0 => h
  | t + 1 => full_succ (s := s + t) hE (by omega) (full_add hE hs h t)
theorem one_full_add {E : Nat → Nat → Prop} {n i : Nat} (hP : ∀ x, x < n → ∃ y, y < n ∧ E y x) {s : Nat} (h : ∀ x, x < n → pa E s i x) : ∀ t x, x < n → pa E (s + t) i x
  | 0, x, hx => h x hx
  | t + 1, x, hx => by
    obtain ⟨y, hy, he⟩ := hP x hx
    exact (pa_right (s + t) i x).2 ⟨y, one_full_add hP h t y hy, he⟩
open Classical in
theorem cycle_full {E : Nat → Nat → Prop} {n v s m : Nat} (hE : ∀ i k, E i k → i < n ∧ k < n) (hv : v < n) (hs : 1 ≤ s) (hc : pa E s v v) (hm : 1 ≤ m) (hF : Full E n m) : ∀ x, x < n → pa E ((n - 1) * s) v x := by
  have up : ∀ k x, pa E (k * s) v x → pa E ((k + 1) * s) v x := fun k x h => by
    rw [show (k + 1) * s = s + k * s by rw [Nat.succ_mul, Nat.add_comm]]
    exact (pa_add s (k * s) v x).2 ⟨v, hc, h⟩
  have key : ∀ k, (∀ x, x < n → pa E (k * s) v x) ∨ k + 1 ≤ (List.range n).countP (fun x => decide (pa E (k * s) v x)) := by
    intro k
    induction k with
    | zero =>
      right
      have : 0 < (List.range n).countP (fun x => decide (pa E (0 * s) v x)) := List.countP_pos_iff.2 ⟨v, List.mem_range.2 hv, by simp [pa]⟩
      omega
    | succ k ih =>
      rcases ih with ih | ih
      · exact .inl fun x hx => up k x (ih x hx)
      · by_cases hlt : (List.range n).countP (fun x => decide (pa E (k * s) v x)) < (List.range n).countP (fun x => decide (pa E ((k + 1) * s) v x))
        · right; omega
        · left
          have hst : ∀ x, x < n → pa E ((k + 1) * s) v x → pa E (k * s) v x := fun x hx h => by
            have := count_eq (p := fun x => decide (pa E (k * s) v x)) (q := fun x => decide (pa E ((k + 1) * s) v x)) (List.range n) (fun x _ h => by simp only [decide_eq_true_eq] at h ⊢; exact up k x h) (by omega) x (List.mem_range.2 hx) (by simpa using h)
            simpa using this
          have all : ∀ j x, x < n → pa E ((k + j) * s) v x → pa E (k * s) v x := by
            intro j
            induction j with
            | zero => intro x _ h; exact h
            | succ j ihj =>
              intro x hx h
              rw [show (k + (j + 1)) * s = (k + j) * s + s by rw [← Nat.add_assoc, Nat.succ_mul]] at h
              obtain ⟨y, h1, h2⟩ := (pa_add ((k + j) * s) s v x).1 h
              have hy : y < n := pa_in (fun i k h => (hE i k h).2) _ _ _ hv h1
              refine hst x hx ?_
              rw [show (k + 1) * s = k * s + s by rw [Nat.succ_mul]]
              exact (pa_add (k * s) s v x).2 ⟨y, ihj y hy h1, h2⟩
          intro x hx
          refine up k x (all m x hx ?_)
          have hge : m ≤ (k + m) * s := Nat.le_trans (by omega) (Nat.le_mul_of_pos_right (k + m) hs)
          obtain ⟨d, hd⟩ : ∃ d, (k + m) * s = m + d := ⟨(k + m) * s - m, by omega⟩
          rw [hd]
          exact full_add hE hm hF d v x hv hx
  rcases key (n - 1) with h | h
  · exact h
  · intro x hx
    have hl : (List.range n).countP (fun x => decide (pa E ((n - 1) * s) v x)) = (List.range n).length := by
      have := List.countP_le_length (p := fun x => decide (pa E ((n - 1) * s) v x)) (l := List.range n)
      rw [List.length_range] at this ⊢
      omega
    have := (List.countP_eq_length.1 hl) x (List.mem_range.2 hx)
    simpa using this
theorem prim_bound {E : Nat → Nat → Prop} {n m : Nat} (hE : ∀ i k, E i k → i < n ∧ k < n) (hc : ∀ i, i < n → ∃ k, E i k) (hm : 1 ≤ m) (hF : Full E n m) : Full E n (n * n) := by
  obtain ⟨c, hc⟩ : ∃ c : Nat → Nat, ∀ i, i < n → E i (c i) := by
    classical
    refine ⟨fun i => if h : i < n then Classical.choose (hc i h) else 0, fun i hi => ?_⟩
    simp only [hi, dif_pos]
    exact Classical.choose_spec (hc i hi)
  have hP : ∀ x, x < n → ∃ y, y < n ∧ E y x := fun x hx => by
    obtain ⟨m, rfl⟩ : ∃ t, m = t + 1 := ⟨m - 1, by omega⟩
    obtain ⟨y, _, h2⟩ := (pa_right m x x).1 (hF x x hx hx)
    exact ⟨y, (hE y x h2).1, h2⟩
  intro i x hi hx
  let f : Nat → Nat := fun a => Nat.repeat c a i
  have f0 : f 0 = i := rfl
  have fs : ∀ a, f (a + 1) = c (f a) := fun a => rfl
  have fin : ∀ a, f a < n := by
    intro a
    induction a with
    | zero => exact hi
    | succ a ih => rw [fs]; exact (hE _ _ (hc _ ih)).2
  have fpa : ∀ a d, pa E d (f a) (f (a + d)) := by
    intro a d
    induction d with
    | zero => rfl
    | succ d ih => exact (pa_right d _ _).2 ⟨f (a + d), ih, by rw [← Nat.add_assoc, fs]; exact hc _ (fin _)⟩
  obtain ⟨a, b, hab, hb, heq⟩ : ∃ a b, a < b ∧ b < n + 1 ∧ f a = f b := by
    refine Classical.byContradiction fun hn => ?_
    have := pigeon n (fun a => (f a : Int)) (n + 1) (fun a _ => ⟨by omega, by have := fin a; omega⟩) (fun a b hab hb e => hn ⟨a, b, hab, hb, by omega⟩)
    omega
  have hcy : pa E (b - a) (f a) (f a) := by
    have := fpa a (b - a)
    rw [show a + (b - a) = b by omega, ← heq] at this
    exact this
  have hful := cycle_full hE (fin a) (by omega : 1 ≤ b - a) hcy hm hF
  have hi0 : pa E a i (f a) := by have := fpa 0 a; rw [Nat.zero_add] at this; exact this
  have hone : ∀ x, x < n → pa E (a + (n - 1) * (b - a)) i x := fun x hx => (pa_add a _ i x).2 ⟨f a, hi0, hful x hx⟩
  have hle : a + (n - 1) * (b - a) ≤ n * n := by
    have h1 : (n - 1) * (b - a) ≤ (n - 1) * (n - a) := Nat.mul_le_mul_left _ (by omega)
    obtain ⟨q, hq⟩ : ∃ q, n = q + 1 := ⟨n - 1, by omega⟩
    have ha : a ≤ q := by omega
    obtain ⟨r, hr⟩ : ∃ r, q = a + r := ⟨q - a, by omega⟩
    have h2 : (n - 1) * (n - a) = q * (r + 1) := by rw [hq, show q + 1 - 1 = q by omega, show q + 1 - a = r + 1 by omega]
    have h3 : q * (r + 1) ≤ q * (q + 1) := Nat.mul_le_mul_left _ (by omega)
    have h4 : n * n = q * (q + 1) + (q + 1) := by rw [hq, Nat.succ_mul]
    omega
  obtain ⟨d, hd⟩ : ∃ d, n * n = a + (n - 1) * (b - a) + d := ⟨n * n - (a + (n - 1) * (b - a)), by omega⟩
  rw [hd]
  exact one_full_add hP hone d x hx
end Go.Proofs.YtnoehaphbpkpjaaGreat
namespace Go.Proofs.YtnoehaphbpkpjaaGreat
open Go.RowKit
def sel (b : Bool) (k : Col) : Int := if b = true then k.e else k.w
def astep (f t : Bool) (out nx : List Bool) (k : Col) : List Bool := nx.set (sel f k).toNat (nx.getD (sel f k).toNat false || out.getD (sel t k).toNat false)
def ago (S : Nat) (cols : List Col) (f t : Bool) (out : List Bool) : List Bool := cols.foldl (astep f t out) (List.replicate S false)
def endL (S : Nat) (cols : List Col) (f t : Bool) : Nat → List Bool
  | 0 => List.replicate S true
  | m + 1 => ago S cols f t (endL S cols f t m)
theorem astep_len (f t : Bool) (out nx : List Bool) (k : Col) : (astep f t out nx k).length = nx.length := by simp [astep]
theorem afold_len (f t : Bool) (out : List Bool) : ∀ (cols : List Col) (nx : List Bool), (cols.foldl (astep f t out) nx).length = nx.length
  | [], nx => rfl
  | k :: cols, nx => by rw [List.foldl_cons, afold_len f t out cols, astep_len]
theorem ago_len (S : Nat) (cols : List Col) (f t : Bool) (out : List Bool) : (ago S cols f t out).length = S := by unfold ago; rw [afold_len]; simp
theorem ago_take (S : Nat) (cols : List Col) (f t : Bool) (out : List Bool) (j : Nat) (hj : j < cols.length) : ago S (cols.take (j + 1)) f t out = astep f t out (ago S (cols.take j) f t out) cols[j] := by
  unfold ago; rw [List.take_succ_eq_append_getElem hj, List.foldl_append]; rfl
theorem endL_len (S : Nat) (cols : List Col) (f t : Bool) : ∀ m, (endL S cols f t m).length = S
  | 0 => by simp [endL]
  | _ + 1 => ago_len ..
theorem sel_in {S : Nat} {cols : List Col} (hC : Codes S cols) (b : Bool) {k : Col} (hk : k ∈ cols) : 0 ≤ sel b k ∧ sel b k < S := by
  have := hC k hk
  unfold sel; split <;> omega
theorem afold_get {S : Nat} (f t : Bool) (out : List Bool) : ∀ (cols : List Col) (nx : List Bool), Codes S cols → nx.length = S → ∀ x, x < S → (cols.foldl (astep f t out) nx).getD x false = (nx.getD x false || cols.any fun k => decide ((sel f k).toNat = x) && out.getD (sel t k).toNat false)
  | [], nx, _, _, x, _ => by simp
  | k :: cols, nx, hc, hl, x, hx => by
    have hk := sel_in hc f (List.mem_cons_self ..)
    rw [List.foldl_cons, afold_get f t out cols _ (fun x hx => hc x (List.mem_cons_of_mem _ hx)) (by rw [astep_len]; exact hl) x hx, List.any_cons]
    have hs : (astep f t out nx k).getD x false = (nx.getD x false || (decide ((sel f k).toNat = x) && out.getD (sel t k).toNat false)) := by
      unfold astep
      by_cases e : (sel f k).toNat = x
      · subst e
        simp [show (sel f k).toNat < nx.length by omega]
      · simp [e, List.getElem?_set_ne]
    rw [hs, Bool.or_assoc]
theorem ago_get {S : Nat} {cols : List Col} (hC : Codes S cols) (f t : Bool) (out : List Bool) (x : Nat) (hx : x < S) : (ago S cols f t out).getD x false = true ↔ ∃ k ∈ cols, (sel f k).toNat = x ∧ out.getD (sel t k).toNat false = true := by
  unfold ago
  rw [afold_get (S := S) f t out cols _ hC (by simp) x hx, show (List.replicate S false).getD x false = false by simp [hx]]
  simp [List.any_eq_true]
/-- a column leads from the one word to the other -/
def Ec (cols : List Col) (f t : Bool) (x y : Nat) : Prop := ∃ k ∈ cols, (sel f k).toNat = x ∧ (sel t k).toNat = y
theorem Ec_in {S : Nat} {cols : List Col} (hC : Codes S cols) {f t : Bool} {x y : Nat} (h : Ec cols f t x y) : x < S ∧ y < S := by
  obtain ⟨k, hk, h1, h2⟩ := h
  have := sel_in hC f hk
  have := sel_in hC t hk
  omega
theorem Ec_flip {cols : List Col} {f t : Bool} {x y : Nat} : Ec cols f t x y ↔ Ec cols t f y x := by
  constructor <;> rintro ⟨k, h, h1, h2⟩ <;> exact ⟨k, h, h2, h1⟩
theorem pa_flip {cols : List Col} {f t : Bool} : ∀ (m x y : Nat), pa (Ec cols f t) m x y → pa (Ec cols t f) m y x
  | 0, x, y, h => h.symm
  | m + 1, x, y, ⟨k, h1, h2⟩ => (pa_right m y x).2 ⟨k, pa_flip m k y h2, Ec_flip.1 h1⟩
theorem endL_get {S : Nat} {cols : List Col} (hC : Codes S cols) (f t : Bool) : ∀ (m x : Nat), x < S → ((endL S cols f t m).getD x false = true ↔ ∃ y, pa (Ec cols f t) m x y)
  | 0, x, hx => by simp [endL, hx, pa]
  | m + 1, x, hx => by
    unfold endL
    rw [ago_get hC f t _ x hx]
    constructor
    · rintro ⟨k, hk, h1, h2⟩
      have := sel_in hC t hk
      obtain ⟨y, hy⟩ := (endL_get hC f t m _ (by omega)).1 h2
      exact ⟨y, _, ⟨k, hk, h1, rfl⟩, hy⟩
    · rintro ⟨y, z, ⟨k, hk, h1, rfl⟩, hy⟩
      have := sel_in hC t hk
      exact ⟨k, hk, h1, (endL_get hC f t m _ (by omega)).2 ⟨y, hy⟩⟩
theorem pa_less {E : Nat → Nat → Prop} {m x : Nat} : (∃ y, pa E (m + 1) x y) → ∃ y, pa E m x y := by
  rintro ⟨y, h⟩
  obtain ⟨z, h1, _⟩ := (pa_right m x y).1 h
  exact ⟨z, h1⟩
theorem endL_less {S : Nat} {cols : List Col} (hC : Codes S cols) (f t : Bool) (m x : Nat) (hx : x < S) (h : (endL S cols f t (m + 1)).getD x false = true) : (endL S cols f t m).getD x false = true :=
  (endL_get hC f t m x hx).2 (pa_less ((endL_get hC f t (m + 1) x hx).1 h))
/-- truth values of one length are told by their places -/
theorem bools_ext {xs ys : List Bool} (hl : xs.length = ys.length) (h : ∀ x, x < xs.length → (xs.getD x false = true ↔ ys.getD x false = true)) : xs = ys := by
  refine List.ext_getElem hl fun i h1 h2 => ?_
  have := h i h1
  simp only [List.getD_eq_getElem?_getD, List.getElem?_eq_getElem h1, List.getElem?_eq_getElem h2, Option.getD_some] at this
  cases e1 : xs[i] <;> cases e2 : ys[i] <;> simp_all
theorem trues_le : ∀ (xs ys : List Bool), xs.length = ys.length → (∀ x, x < xs.length → xs.getD x false = true → ys.getD x false = true) → xs.count true ≤ ys.count true
  | [], [], _, _ => Nat.le_refl _
  | [], _ :: _, h, _ => by simp at h
  | _ :: _, [], h, _ => by simp at h
  | x :: xs, y :: ys, hl, h => by
    have h0 := h 0 (by simp)
    have h1 := trues_le xs ys (by simpa using hl) fun i hi => by have := h (i + 1) (by simpa using hi); simpa using this
    rw [List.count_cons, List.count_cons]
    simp only [List.getD_cons_zero] at h0
    cases x <;> cases y <;> simp_all
    omega
theorem trues_eq : ∀ (xs ys : List Bool), xs.length = ys.length → (∀ x, x < xs.length → xs.getD x false = true → ys.getD x false = true) → ys.count true ≤ xs.count true → xs = ys
  | [], [], _, _, _ => rfl
  | [], _ :: _, h, _, _ => by simp at h
  | _ :: _, [], h, _, _ => by simp at h
  | x :: xs, y :: ys, hl, h, hc => by
    have h0 := h 0 (by simp)
    have hr : ∀ i, i < xs.length → xs.getD i false = true → ys.getD i false = true := fun i hi => by have := h (i + 1) (by simpa using hi); simpa using this
    have h1 := trues_le xs ys (by simpa using hl) hr
    rw [List.count_cons, List.count_cons] at hc
    simp only [List.getD_cons_zero] at h0
    have hxy : x = y := by cases x <;> cases y <;> simp_all; omega
    subst hxy
    rw [trues_eq xs ys (by simpa using hl) hr (by omega)]
theorem endL_count {S : Nat} {cols : List Col} (hC : Codes S cols) (f t : Bool) (m : Nat) (hne : endL S cols f t (m + 1) ≠ endL S cols f t m) : (endL S cols f t (m + 1)).count true < (endL S cols f t m).count true := by
  refine Nat.lt_of_not_le fun hle => hne (trues_eq _ _ (by rw [endL_len, endL_len]) (fun x hx h => endL_less hC f t m x (by rw [endL_len] at hx; exact hx) h) hle)
/-- where nothing changes any more, the ways are endless -/
def EndS (S : Nat) (cols : List Col) (f t : Bool) (X : List Bool) : Prop := X.length = S ∧ ago S cols f t X = X ∧ ∀ x, x < S → (X.getD x false = true ↔ ∀ m, ∃ y, pa (Ec cols f t) m x y)
theorem endL_fix {S : Nat} {cols : List Col} (hC : Codes S cols) (f t : Bool) (m : Nat) (he : endL S cols f t (m + 1) = endL S cols f t m) : EndS S cols f t (endL S cols f t m) := by
  have up : ∀ d, endL S cols f t (m + d) = endL S cols f t m := by
    intro d
    induction d with
    | zero => rfl
    | succ d ih =>
      show ago S cols f t (endL S cols f t (m + d)) = _
      rw [ih]; exact he
  have down : ∀ d k x, (∃ y, pa (Ec cols f t) (k + d) x y) → ∃ y, pa (Ec cols f t) k x y := by
    intro d
    induction d with
    | zero => intro k x h; exact h
    | succ d ih => intro k x h; exact ih k x (pa_less h)
  refine ⟨endL_len .., he, fun x hx => ⟨fun h q => ?_, fun h => (endL_get hC f t m x hx).2 (h m)⟩⟩
  by_cases hq : q ≤ m
  · obtain ⟨d, rfl⟩ : ∃ d, m = q + d := ⟨m - q, by omega⟩
    exact down d q x ((endL_get hC f t _ x hx).1 h)
  · obtain ⟨d, rfl⟩ : ∃ d, q = m + d := ⟨q - m, by omega⟩
    refine (endL_get hC f t _ x hx).1 ?_
    rw [up d]; exact h
theorem pa_seq {E : Nat → Nat → Prop} : ∀ (m x y : Nat), pa E m x y → ∃ g : Nat → Nat, g 0 = x ∧ g m = y ∧ ∀ i, i < m → E (g i) (g (i + 1))
  | 0, x, y, h => ⟨fun _ => x, rfl, h, fun i hi => by omega⟩
  | m + 1, x, y, ⟨k, h1, h2⟩ => by
    obtain ⟨g, g0, gm, gs⟩ := pa_seq m k y h2
    refine ⟨fun i => match i with | 0 => x | i + 1 => g i, rfl, gm, fun i hi => ?_⟩
    cases i with
    | zero => show E x (g 0); rw [g0]; exact h1
    | succ i => exact gs i (by omega)
theorem seq_pa {E : Nat → Nat → Prop} {g : Nat → Nat} {m : Nat} (gs : ∀ i, i < m → E (g i) (g (i + 1))) : ∀ d a, a + d ≤ m → pa E d (g a) (g (a + d))
  | 0, a, _ => rfl
  | d + 1, a, h => (pa_right d _ _).2 ⟨g (a + d), seq_pa gs d a (by omega), gs (a + d) (by omega)⟩
/-- a way of more columns than there are comes round -/
theorem way_cycle {cols : List Col} {f t : Bool} {x y : Nat} (h : pa (Ec cols f t) (cols.length + 1) x y) : ∃ v s, 1 ≤ s ∧ pa (Ec cols f t) s v v := by
  obtain ⟨g, _, _, gs⟩ := pa_seq _ _ _ h
  have hidx : ∀ i, i < cols.length + 1 → ∃ c, ∃ hc : c < cols.length, (sel f cols[c]).toNat = g i := fun i hi => by
    obtain ⟨k, hk, h1, _⟩ := gs i hi
    obtain ⟨c, hc, rfl⟩ := List.getElem_of_mem hk
    exact ⟨c, hc, h1⟩
  classical
  let q : Nat → Nat := fun i => if h : i < cols.length + 1 then Classical.choose (hidx i h) else 0
  have hq : ∀ i, i < cols.length + 1 → ∃ hc : q i < cols.length, (sel f cols[q i]).toNat = g i := fun i hi => by
    have := Classical.choose_spec (hidx i hi)
    simp only [q, hi, dif_pos]
    exact this
  obtain ⟨a, b, hab, hb, heq⟩ : ∃ a b, a < b ∧ b < cols.length + 1 ∧ q a = q b := by
    refine Classical.byContradiction fun hn => ?_
    have := pigeon cols.length (fun a => (q a : Int)) (cols.length + 1) (fun a ha => ⟨by omega, by obtain ⟨h, _⟩ := hq a ha; omega⟩) (fun a b hab hb e => hn ⟨a, b, hab, hb, by omega⟩)
    omega
  obtain ⟨ha1, ha2⟩ := hq a (by omega)
  obtain ⟨hb1, hb2⟩ := hq b hb
  have hg : g a = g b := by rw [← ha2, ← hb2]; simp only [heq]
  refine ⟨g a, b - a, by omega, ?_⟩
  have := seq_pa gs (b - a) a (by omega)
  rw [show a + (b - a) = b by omega, ← hg] at this
  exact this
theorem cycle_way {E : Nat → Nat → Prop} {v s : Nat} (hs : 1 ≤ s) (h : pa E s v v) : ∀ m, ∃ y, pa E m v y := by
  have rep : ∀ q, pa E (q * s) v v := by
    intro q
    induction q with
    | zero => rw [Nat.zero_mul]; rfl
    | succ q ih => rw [Nat.succ_mul]; exact (pa_add _ _ _ _).2 ⟨v, ih, h⟩
  intro m
  have hle : m ≤ m * s := Nat.le_mul_of_pos_right m hs
  have := rep m
  obtain ⟨d, hd⟩ : ∃ d, m * s = m + d := ⟨m * s - m, by omega⟩
  rw [hd] at this
  obtain ⟨y, h1, _⟩ := (pa_add m d v v).1 this
  exact ⟨y, h1⟩
/-- words on which ways are endless to both sides are there just if there is a way of more columns than there are columns -/
theorem lasting_iff {S : Nat} {cols : List Col} (hC : Codes S cols) {X Y : List Bool} (hX : EndS S cols true false X) (hY : EndS S cols false true Y) :
    (∃ v, v < S ∧ X.getD v false = true ∧ Y.getD v false = true) ↔ (endL S cols true false (cols.length + 1)).contains true = true := by
  have hcon : (endL S cols true false (cols.length + 1)).contains true = true ↔ ∃ x, x < S ∧ (endL S cols true false (cols.length + 1)).getD x false = true := by
    rw [List.contains_iff_mem, List.mem_iff_getElem]
    constructor
    · rintro ⟨i, h, e⟩
      exact ⟨i, by rw [endL_len] at h; exact h, by simp [h, e]⟩
    · rintro ⟨i, h, e⟩
      have h' : i < (endL S cols true false (cols.length + 1)).length := by rw [endL_len]; exact h
      exact ⟨i, h', by simpa [h'] using e⟩
  rw [hcon]
  constructor
  · rintro ⟨v, hv, h1, _⟩
    exact ⟨v, hv, (endL_get hC true false _ v hv).2 ((hX.2.2 v hv).1 h1 _)⟩
  · rintro ⟨x, hx, h⟩
    obtain ⟨y, hy⟩ := (endL_get hC true false _ x hx).1 h
    obtain ⟨v, s, hs, hc⟩ := way_cycle hy
    have hv : v < S := by
      obtain ⟨s, rfl⟩ : ∃ q, s = q + 1 := ⟨s - 1, by omega⟩
      obtain ⟨k, h1, _⟩ := hc
      exact (Ec_in hC h1).1
    exact ⟨v, hv, (hX.2.2 v hv).2 (cycle_way hs hc), (hY.2.2 v hv).2 (cycle_way hs (pa_flip _ _ _ hc))⟩
/-- what is read at the end of a column on which both ends are endless is endless too -/
theorem EndS.back {S : Nat} {cols : List Col} (hC : Codes S cols) {f t : Bool} {X : List Bool} (h : EndS S cols f t X) {k : Col} (hk : k ∈ cols) (hx : X.getD (sel t k).toNat false = true) : X.getD (sel f k).toNat false = true := by
  have := sel_in hC f hk
  rw [← h.2.1, ago_get hC f t X _ (by omega)]
  exact ⟨k, hk, rfl, hx⟩

end Go.Proofs.YtnoehaphbpkpjaaGreat
