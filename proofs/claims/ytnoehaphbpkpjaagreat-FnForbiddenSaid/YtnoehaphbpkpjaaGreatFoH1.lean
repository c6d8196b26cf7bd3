/- Contracts and lemmas for the statements of this seat, written for this claim; each theorem states its own conditions. -/
import Derived.Deep.Cut
import Derived.Test.YtnoehaphbpkpjaaGreatFoPr
import Derived.Test.YtnoehaphbpkpjaaGreatFoE1
import Derived.Test.YtnoehaphbpkpjaaGreatFoF1
import Derived.Test.YtnoehaphbpkpjaaGreatFoW4
set_option linter.unusedVariables false
set_option linter.unusedSimpArgs false
namespace Go.Proofs.YtnoehaphbpkpjaaGreat
open Go.RowKit
/-- numbers of ways along columns, cut off behind 10^15 -/
def capN (n : Int) : Int := min n 1000000000000001
def cstep (now nx : List Int) (k : Col) : List Int := nx.set k.e.toNat (capN (nx.getD k.e.toNat 0 + now.getD k.w.toNat 0))
def cgo (S : Nat) (cols : List Col) (now : List Int) : List Int := cols.foldl (cstep now) (List.replicate S 0)
def cntL (S : Nat) (cols : List Col) : Nat → List Int
  | 0 => List.replicate S 1
  | m + 1 => cgo S cols (cntL S cols m)
def csum (xs : List Int) : Int := xs.foldl (fun s n => capN (s + n)) 0
def seqN (S : Nat) (cols : List Col) (m : Nat) : Int := csum (cntL S cols m)
theorem cstep_len (now nx : List Int) (k : Col) : (cstep now nx k).length = nx.length := by simp [cstep]
theorem cfold_len (now : List Int) : ∀ (cols : List Col) (nx : List Int), (cols.foldl (cstep now) nx).length = nx.length
  | [], nx => rfl
  | k :: cols, nx => by rw [List.foldl_cons, cfold_len now cols, cstep_len]
theorem cgo_len (S : Nat) (cols : List Col) (now : List Int) : (cgo S cols now).length = S := by unfold cgo; rw [cfold_len]; simp
theorem cgo_take (S : Nat) (cols : List Col) (now : List Int) (j : Nat) (hj : j < cols.length) : cgo S (cols.take (j + 1)) now = cstep now (cgo S (cols.take j) now) cols[j] := by
  unfold cgo; rw [List.take_succ_eq_append_getElem hj, List.foldl_append]; rfl
theorem cntL_len (S : Nat) (cols : List Col) : ∀ m, (cntL S cols m).length = S
  | 0 => by simp [cntL]
  | _ + 1 => cgo_len ..
theorem csum_take (xs : List Int) (j : Nat) (hj : j < xs.length) : csum (xs.take (j + 1)) = capN (csum (xs.take j) + xs[j]) := by
  unfold csum; rw [List.take_succ_eq_append_getElem hj, List.foldl_append]; rfl
def InCap (x : Int) : Prop := 0 ≤ x ∧ x ≤ 1000000000000001
theorem capN_in {x : Int} (h : 0 ≤ x) : InCap (capN x) := by unfold InCap capN; omega
theorem capN_pos {x : Int} : 0 < capN x ↔ 0 < x := by unfold capN; omega
theorem getD_in {xs : List Int} (h : ∀ x ∈ xs, InCap x) (i : Nat) : InCap (xs.getD i 0) := by
  rw [List.getD_eq_getElem?_getD]
  cases e : xs[i]? with
  | none => exact ⟨by simp, by simp⟩
  | some y => exact h y (List.mem_of_getElem? e)
theorem cstep_in {now nx : List Int} {k : Col} (h1 : ∀ x ∈ now, InCap x) (h2 : ∀ x ∈ nx, InCap x) : ∀ x ∈ cstep now nx k, InCap x := by
  intro x hx
  unfold cstep at hx
  rcases List.mem_or_eq_of_mem_set hx with hx | rfl
  · exact h2 x hx
  · have a1 := getD_in h2 k.e.toNat
    have a2 := getD_in h1 k.w.toNat
    exact capN_in (by have := a1.1; have := a2.1; omega)
theorem cfold_in {now : List Int} (h1 : ∀ x ∈ now, InCap x) : ∀ (cols : List Col) (nx : List Int), (∀ x ∈ nx, InCap x) → ∀ x ∈ cols.foldl (cstep now) nx, InCap x
  | [], nx, h => h
  | k :: cols, nx, h => by rw [List.foldl_cons]; exact cfold_in h1 cols _ (cstep_in h1 h)
theorem cgo_in {S : Nat} {cols : List Col} {now : List Int} (h1 : ∀ x ∈ now, InCap x) : ∀ x ∈ cgo S cols now, InCap x :=
  cfold_in h1 cols _ fun x hx => by obtain ⟨_, rfl⟩ := List.mem_replicate.1 hx; exact ⟨by omega, by omega⟩
theorem cntL_in (S : Nat) (cols : List Col) : ∀ m, ∀ x ∈ cntL S cols m, InCap x
  | 0 => fun x hx => by obtain ⟨_, rfl⟩ := List.mem_replicate.1 hx; exact ⟨by omega, by omega⟩
  | m + 1 => cgo_in (cntL_in S cols m)
theorem sfold_in : ∀ (xs : List Int) (s : Int), InCap s → (∀ x ∈ xs, InCap x) → InCap (xs.foldl (fun s n => capN (s + n)) s)
  | [], s, h, _ => h
  | x :: xs, s, h, hx => by
    rw [List.foldl_cons]
    exact sfold_in xs _ (capN_in (by have := h.1; have := (hx x (List.mem_cons_self ..)).1; omega)) fun y hy => hx y (List.mem_cons_of_mem _ hy)
theorem csum_in {xs : List Int} (h : ∀ x ∈ xs, InCap x) : InCap (csum xs) := sfold_in xs 0 ⟨by omega, by omega⟩ h
theorem seqN_in (S : Nat) (cols : List Col) (m : Nat) : InCap (seqN S cols m) := csum_in (cntL_in S cols m)
def posL (xs : List Int) : List Bool := xs.map fun x => decide (0 < x)
theorem posL_getD (xs : List Int) (i : Nat) : (posL xs).getD i false = decide (0 < xs.getD i 0) := by
  unfold posL
  rw [List.getD_eq_getElem?_getD, List.getD_eq_getElem?_getD, List.getElem?_map]
  cases xs[i]? <;> simp
theorem posL_step {now nx : List Int} {k : Col} (h1 : ∀ x ∈ now, InCap x) (h2 : ∀ x ∈ nx, InCap x) : posL (cstep now nx k) = astep true false (posL now) (posL nx) k := by
  unfold cstep astep
  rw [posL_getD, posL_getD]
  have a1 := (getD_in h2 k.e.toNat).1
  have a2 := (getD_in h1 k.w.toNat).1
  show List.map _ (List.set _ _ _) = _
  rw [List.map_set]
  show (posL nx).set k.e.toNat _ = (posL nx).set k.e.toNat (decide (0 < nx.getD k.e.toNat 0) || decide (0 < now.getD k.w.toNat 0))
  congr 1
  rw [Bool.eq_iff_iff]
  simp only [decide_eq_true_eq, Bool.or_eq_true, capN_pos]
  omega
theorem posL_fold {now : List Int} (h1 : ∀ x ∈ now, InCap x) : ∀ (cols : List Col) (nx : List Int), (∀ x ∈ nx, InCap x) → posL (cols.foldl (cstep now) nx) = cols.foldl (astep true false (posL now)) (posL nx)
  | [], nx, _ => rfl
  | k :: cols, nx, h => by rw [List.foldl_cons, List.foldl_cons, posL_fold h1 cols _ (cstep_in h1 h), posL_step h1 h]
theorem posL_cntL (S : Nat) (cols : List Col) : ∀ m, posL (cntL S cols m) = endL S cols true false m
  | 0 => by simp [posL, cntL, endL]
  | m + 1 => by
    show posL (cols.foldl (cstep (cntL S cols m)) (List.replicate S 0)) = ago S cols true false (endL S cols true false m)
    rw [posL_fold (cntL_in S cols m) cols _ (fun x hx => by obtain ⟨_, rfl⟩ := List.mem_replicate.1 hx; exact ⟨by omega, by omega⟩), posL_cntL S cols m]
    unfold ago
    congr 1
    simp [posL]
theorem sfold_pos : ∀ (xs : List Int) (s : Int), InCap s → (∀ x ∈ xs, InCap x) → (0 < xs.foldl (fun s n => capN (s + n)) s ↔ (0 < s ∨ ∃ x ∈ xs, 0 < x))
  | [], s, _, _ => by simp
  | x :: xs, s, h, hx => by
    have a1 := h.1
    have a2 := (hx x (List.mem_cons_self ..)).1
    rw [List.foldl_cons, sfold_pos xs _ (capN_in (by omega)) fun y hy => hx y (List.mem_cons_of_mem _ hy), capN_pos]
    simp only [List.mem_cons, exists_eq_or_imp]
    constructor
    · rintro (h | h)
      · by_cases e : 0 < s
        · exact .inl e
        · exact .inr (.inl (by omega))
      · exact .inr (.inr h)
    · rintro (h | h | h)
      · exact .inl (by omega)
      · exact .inl (by omega)
      · exact .inr h
theorem seqN_pos (S : Nat) (cols : List Col) (m : Nat) : 0 < seqN S cols m ↔ (endL S cols true false m).contains true = true := by
  unfold seqN csum
  rw [sfold_pos _ 0 ⟨by omega, by omega⟩ (cntL_in S cols m), ← posL_cntL, List.contains_iff_mem]
  unfold posL
  rw [List.mem_map]
  constructor
  · rintro (h | ⟨x, h1, h2⟩)
    · omega
    · exact ⟨x, h1, by simp [h2]⟩
  · rintro ⟨x, h1, h2⟩
    exact .inr ⟨x, h1, by simpa using h2⟩
def seqOk (S : Nat) (cols : List Col) (n : Nat) : Bool := (List.range n).all fun i => decide (seqN S cols (i + 1) ≤ 1000000000000000)
def seqVals (S : Nat) (cols : List Col) (n : Nat) : List Int := (List.range n).map fun i => seqN S cols (i + 1)
theorem seqVals_len (S : Nat) (cols : List Col) (n : Nat) : (seqVals S cols n).length = n := by simp [seqVals]
theorem seqVals_succ (S : Nat) (cols : List Col) (n : Nat) : seqVals S cols (n + 1) = seqVals S cols n ++ [seqN S cols (n + 1)] := by simp [seqVals, List.range_succ]
theorem seqVals_at (S : Nat) (cols : List Col) (n i : Nat) (h : i < (seqVals S cols n).length) : (seqVals S cols n)[i] = seqN S cols (i + 1) := by simp [seqVals]
theorem seqOk_succ (S : Nat) (cols : List Col) (n : Nat) : seqOk S cols (n + 1) = (seqOk S cols n && decide (seqN S cols (n + 1) ≤ 1000000000000000)) := by simp [seqOk, List.range_succ]
theorem seqOk_less {S : Nat} {cols : List Col} {m n : Nat} (h : seqOk S cols n = true) (hm : m ≤ n) : seqOk S cols m = true := by
  unfold seqOk at h ⊢
  rw [List.all_eq_true] at h ⊢
  intro i hi
  rw [List.mem_range] at hi
  exact h i (List.mem_range.2 (by omega))

end Go.Proofs.YtnoehaphbpkpjaaGreat
namespace Go.Proofs.YtnoehaphbpkpjaaGreat
open Go.RowKit
theorem xfold_get {S : Nat} (x : Int) (now far : List Bool) (b : Nat) : ∀ (cs : List Col) (nx : List Bool), Codes S cs → nx.length = S →
    ((cs.foldl (xstep x now far) nx).getD b false = true ↔ (nx.getD b false = true ∨ ∃ k, k ∈ cs ∧ ((x == k.n) && now.getD k.w.toNat false && far.getD k.e.toNat false) = true ∧ k.e.toNat = b))
  | [], nx, _, _ => by simp
  | k :: cs, nx, hc, hl => by
    have hk := hc k (List.mem_cons_self ..)
    rw [List.foldl_cons, xfold_get x now far b cs _ (fun q hq => hc q (List.mem_cons_of_mem _ hq)) (by rw [xstep_len]; exact hl)]
    unfold xstep
    by_cases h : ((x == k.n) && now.getD k.w.toNat false && far.getD k.e.toNat false) = true
    · rw [if_pos h, getD_set _ _ _ (by omega)]
      constructor
      · rintro ((e | e) | ⟨q, q1, q2⟩)
        · exact .inr ⟨k, List.mem_cons_self .., h, e⟩
        · exact .inl e
        · exact .inr ⟨q, List.mem_cons_of_mem _ q1, q2⟩
      · rintro (e | ⟨q, q1, q2⟩)
        · exact .inl (.inr e)
        · rcases List.mem_cons.1 q1 with rfl | q1
          · exact .inl (.inl q2.2)
          · exact .inr ⟨q, q1, q2⟩
    · rw [if_neg h]
      constructor
      · rintro (e | ⟨q, q1, q2⟩)
        · exact .inl e
        · exact .inr ⟨q, List.mem_cons_of_mem _ q1, q2⟩
      · rintro (e | ⟨q, q1, q2⟩)
        · exact .inl e
        · rcases List.mem_cons.1 q1 with rfl | q1
          · exact absurd q2.1 h
          · exact .inr ⟨q, q1, q2⟩
theorem rep_false (S b : Nat) : ¬ (List.replicate S false).getD b false = true := by
  intro h
  have := getD_false h
  rw [List.length_replicate] at this
  rw [List.getD_eq_getElem?_getD, List.getElem?_replicate, if_pos this] at h
  simp at h
theorem xgo_get {S : Nat} {cols : List Col} (hC : Codes S cols) (x : Int) (now far : List Bool) (b : Nat) : (xgo S cols x now far).getD b false = true ↔ ∃ k, k ∈ cols ∧ ((x == k.n) && now.getD k.w.toNat false && far.getD k.e.toNat false) = true ∧ k.e.toNat = b := by
  unfold xgo
  rw [xfold_get x now far b cols _ hC (by simp)]
  exact ⟨fun h => h.resolve_left (rep_false S b), .inr⟩
theorem bfold_get {S : Nat} (far : List Bool) (b : Nat) : ∀ (cs : List Col) (nx : List Bool), Codes S cs → nx.length = S →
    ((cs.foldl (bstep far) nx).getD b false = true ↔ (nx.getD b false = true ∨ ∃ k, k ∈ cs ∧ far.getD k.e.toNat false = true ∧ k.w.toNat = b))
  | [], nx, _, _ => by simp
  | k :: cs, nx, hc, hl => by
    have hk := hc k (List.mem_cons_self ..)
    rw [List.foldl_cons, bfold_get far b cs _ (fun q hq => hc q (List.mem_cons_of_mem _ hq)) (by rw [bstep_len]; exact hl)]
    unfold bstep
    by_cases h : far.getD k.e.toNat false = true
    · rw [if_pos h, getD_set _ _ _ (by omega)]
      constructor
      · rintro ((e | e) | ⟨q, q1, q2⟩)
        · exact .inr ⟨k, List.mem_cons_self .., h, e⟩
        · exact .inl e
        · exact .inr ⟨q, List.mem_cons_of_mem _ q1, q2⟩
      · rintro (e | ⟨q, q1, q2⟩)
        · exact .inl (.inr e)
        · rcases List.mem_cons.1 q1 with rfl | q1
          · exact .inl (.inl q2.2)
          · exact .inr ⟨q, q1, q2⟩
    · rw [if_neg h]
      constructor
      · rintro (e | ⟨q, q1, q2⟩)
        · exact .inl e
        · exact .inr ⟨q, List.mem_cons_of_mem _ q1, q2⟩
      · rintro (e | ⟨q, q1, q2⟩)
        · exact .inl e
        · rcases List.mem_cons.1 q1 with rfl | q1
          · exact absurd q2.1 h
          · exact .inr ⟨q, q1, q2⟩
theorem bgo_get {S : Nat} {cols : List Col} (hC : Codes S cols) (far : List Bool) (b : Nat) : (bgo S cols far).getD b false = true ↔ ∃ k, k ∈ cols ∧ far.getD k.e.toNat false = true ∧ k.w.toNat = b := by
  unfold bgo
  rw [bfold_get far b cols _ hC (by simp)]
  exact ⟨fun h => h.resolve_left (rep_false S b), .inr⟩
/-- from where a word leads on, as many columns can come -/
theorem far_way {S : Nat} {cols : List Col} (hC : Codes S cols) : ∀ (word : List Int) (a b : Nat), a < S → Way cols a word b → (farAt S cols word.length).getD a false = true
  | [], a, b, ha, _ => (all_getD S a).2 ha
  | x :: l, a, b, ha, ⟨k, k1, k2, k3, k4⟩ => by
    show (bgo S cols (farAt S cols l.length)).getD a false = true
    have hk := hC k k1
    exact (bgo_get hC _ _).2 ⟨k, k1, far_way hC l _ b (by omega) k4, k3⟩
theorem exts_all {S : Nat} {cols : List Col} (hC : Codes S cols) (c : Nat) : ∀ (word : List Int) (now : List Bool), now.length = S → (∀ x ∈ word, 0 ≤ x ∧ x < (c : Int)) → (∃ a b, now.getD a false = true ∧ Way cols a word b) → word ∈ exts S cols c word.length now
  | [], now, _, _, _ => by simp [exts]
  | x :: l, now, hn, hx, ⟨a, b, h1, k, k1, k2, k3, k4⟩ => by
    have hk := hC k k1
    have hx0 := hx x (List.mem_cons_self ..)
    have hf := far_way hC l k.e.toNat b (by omega) k4
    have hg : ((x == k.n) && now.getD k.w.toNat false && (farAt S cols l.length).getD k.e.toNat false) = true := by rw [k3, h1, hf, k2]; simp
    have hs : xsome cols x now (farAt S cols l.length) = true := List.any_eq_true.2 ⟨k, k1, hg⟩
    obtain ⟨m, rfl⟩ := Int.eq_ofNat_of_zero_le hx0.1
    rw [List.length_cons, exts, List.mem_flatMap]
    refine ⟨m, List.mem_range.2 (by omega), ?_⟩
    rw [if_pos hs, List.mem_map]
    exact ⟨l, exts_all hC c l _ (xgo_len ..) (fun y hy => hx y (List.mem_cons_of_mem _ hy)) ⟨_, b, (xgo_get hC _ _ _ _).2 ⟨k, k1, hg, rfl⟩, k4⟩, rfl⟩
/-- the words that are found are the traces -/
theorem trWords_iff {S : Nat} {cols : List Col} (hC : Codes S cols) (hS : 1 ≤ S) (c : Nat) {word : List Int} (hx : ∀ x ∈ word, 0 ≤ x ∧ x < (c : Int)) : word ∈ trWords S cols c word.length ↔ traceB S cols word = true := by
  rw [traceB_way hC]
  constructor
  · intro h
    obtain ⟨a, b, h1, h2⟩ := exts_way hC c word.length (List.replicate S true) List.length_replicate ⟨0, (all_getD _ _).2 (by omega)⟩ word h
    exact ⟨a, b, (all_getD _ _).1 h1, h2⟩
  · rintro ⟨a, b, h1, h2⟩
    exact exts_all hC c word _ List.length_replicate hx ⟨a, b, (all_getD _ _).2 h1, h2⟩
theorem memB_iff {L : List (List Int)} {word : List Int} : memB L word = true ↔ word ∈ L := by
  unfold memB eqI
  rw [List.any_eq_true]
  constructor
  · rintro ⟨x, h1, h2⟩
    rw [decide_eq_true_eq] at h2
    exact h2 ▸ h1
  · exact fun h => ⟨word, h, by simp⟩
theorem lfTo_form {S : Nat} {cols : List Col} {c : Nat} : ∀ m, ∀ r ∈ lfTo S cols c m, ∃ j b, ∃ y : Nat, j < m ∧ y < c ∧ b ∈ trWords S cols c j ∧ r = b ++ [(y : Int)] ∧ r.drop 1 ∈ trWords S cols c j ∧ r ∉ trWords S cols c (j + 1)
  | 0, r, h => by simp [lfTo] at h
  | m + 1, r, h => by
    rw [lfTo, List.mem_append] at h
    rcases h with h | h
    · obtain ⟨j, b, y, h1, h2⟩ := lfTo_form m r h
      exact ⟨j, b, y, by omega, h2⟩
    · unfold lfAdd at h
      rw [List.mem_flatMap] at h
      obtain ⟨b, hb, h⟩ := h
      unfold lfRow at h
      rw [List.mem_flatMap] at h
      obtain ⟨y, hy, h⟩ := h
      split at h
      · rename_i hq
        rw [Bool.and_eq_true] at hq
        obtain rfl := List.mem_singleton.1 h
        refine ⟨m, b, y, by omega, List.mem_range.1 hy, List.mem_of_mem_take hb, rfl, memB_iff.1 hq.1, fun hm => ?_⟩
        have := memB_iff.2 hm
        rw [this] at hq
        simp at hq
      · simp at h
/-- what is said of a least forbidden word -/
theorem lf_word {c : Int} {ts : List T4} {h n : Int} (hc : lfCode c ts h n = 0) {r : List Int} (hr : r ∈ lfVal c ts h n) :
    (r.length : Int) ≤ n ∧ 1 ≤ r.length ∧ tsCode c ts h (wordOk c r) = 0 ∧ trV c ts h r = false ∧ (1 < r.length → tsCode c ts h (wordOk c (r.take (r.length - 1))) = 0 ∧ trV c ts h (r.take (r.length - 1)) = true ∧ tsCode c ts h (wordOk c (r.drop 1)) = 0 ∧ trV c ts h (r.drop 1) = true) := by
  unfold lfVal at hr
  rw [if_pos hc] at hr
  unfold lfCode at hc
  have hz : tsCode c ts h (inR 1 5 n) = 0 := by
    by_cases e : tsCode c ts h (inR 1 5 n) = 0
    · exact e
    · rw [if_neg e] at hc; exact hc
  obtain ⟨hs, hn, h1, h3, hp⟩ := tsCode_zero hz
  rw [inR_iff] at hn
  obtain ⟨_, ⟨c1, c6⟩, _⟩ := isSetB_parts hs
  obtain ⟨H, rfl⟩ := Int.eq_ofNat_of_zero_le (by omega : 0 ≤ h)
  obtain ⟨C, rfl⟩ := Int.eq_ofNat_of_zero_le (by omega : 0 ≤ c)
  rw [Int.toNat_natCast, Int.toNat_natCast] at hr
  rw [Int.toNat_natCast] at hp
  have hCo := lev_Codes hs H
  have hS1 : 1 ≤ (powC (C : Int) H).toNat := by
    have := (powC_le c1 c6 H).1
    omega
  obtain ⟨j, b, y, hj, hy, hb, rfl, hd, hno⟩ := lfTo_form _ r hr
  obtain ⟨b1, b2⟩ := exts_in _ _ _ _ _ b hb
  obtain ⟨d1, d2⟩ := exts_in _ _ _ _ _ _ hd
  have hcode : ∀ word : List Int, 1 ≤ word.length → word.length ≤ 20 → (∀ x ∈ word, 0 ≤ x ∧ x < (C : Int)) → tsCode (C : Int) ts (H : Int) (wordOk (C : Int) word) = 0 := fun word w1 w2 w3 => by
    have hwo : wordOk (C : Int) word = true := by
      unfold wordOk
      rw [Bool.and_eq_true]
      exact ⟨by rw [decide_eq_true_eq]; omega, wordB_of w3⟩
    unfold tsCode
    rw [if_pos hs, if_pos (by rw [hwo, Bool.and_true, inR_iff]; omega), if_neg (by rw [Int.toNat_natCast]; omega)]
  have hv : ∀ word : List Int, 1 ≤ word.length → word.length ≤ 20 → (∀ x ∈ word, 0 ≤ x ∧ x < (C : Int)) → trV (C : Int) ts (H : Int) word = traceB (powC (C : Int) H).toNat (lev (C : Int) ts H) word := fun word w1 w2 w3 => by
    unfold trV
    rw [if_pos (hcode word w1 w2 w3), Int.toNat_natCast]
  have hin : ∀ x ∈ b ++ [(y : Int)], 0 ≤ x ∧ x < (C : Int) := fun x hx => by
    rcases List.mem_append.1 hx with hx | hx
    · exact b2 x hx
    · obtain rfl := List.mem_singleton.1 hx; omega
  have hlen : (b ++ [(y : Int)]).length = j + 1 := by simp [b1]
  refine ⟨by rw [hlen]; omega, by rw [hlen]; omega, hcode _ (by rw [hlen]; omega) (by rw [hlen]; omega) hin, ?_, fun hgt => ?_⟩
  · rw [hv _ (by rw [hlen]; omega) (by rw [hlen]; omega) hin]
    cases e : traceB (powC (C : Int) H).toNat (lev (C : Int) ts H) (b ++ [(y : Int)])
    · rfl
    · have := (trWords_iff hCo hS1 C hin).2 e
      rw [hlen] at this
      exact absurd this hno
  · have et : (b ++ [(y : Int)]).take ((b ++ [(y : Int)]).length - 1) = b := by rw [hlen, show j + 1 - 1 = b.length by omega, List.take_left]
    rw [et]
    refine ⟨hcode b (by omega) (by omega) b2, ?_, hcode _ (by omega) (by omega) d2, ?_⟩
    · rw [hv b (by omega) (by omega) b2]
      rw [← b1] at hb
      exact (trWords_iff hCo hS1 C b2).1 hb
    · rw [hv _ (by omega) (by omega) d2]
      rw [← d1] at hd
      exact (trWords_iff hCo hS1 C d2).1 hd
/-- what is said of a stable height -/
theorem sh_facts {c : Int} {ts : List T4} {n : Int} (h : (shR c ts n).2 = 0) : ctCode 200 c ts (shR c ts n).1 n = 0 ∧ ctCode 200 c ts ((shR c ts n).1 + 1) n = 0 ∧ twVal 200 c ts (shR c ts n).1 n = twVal 200 c ts ((shR c ts n).1 + 1) n ∧ 1 ≤ (shR c ts n).1 ∧ (shR c ts n).1 ≤ 2 := by
  have key : ∀ (f : Nat) (b : Int), (shF (fun h => ctCode 200 c ts h n) (fun h => twVal 200 c ts h n) f b).2 = 0 →
      ∀ r, r = (shF (fun h => ctCode 200 c ts h n) (fun h => twVal 200 c ts h n) f b).1 → ctCode 200 c ts r n = 0 ∧ ctCode 200 c ts (r + 1) n = 0 ∧ twVal 200 c ts r n = twVal 200 c ts (r + 1) n ∧ b ≤ r ∧ r < b + f := by
    intro f
    induction f with
    | zero => intro b h; simp [shF] at h
    | succ f ih =>
      intro b h r hr
      unfold shF at h hr
      by_cases e1 : ctCode 200 c ts b n = 0
      · rw [if_neg (by simpa using e1)] at h hr
        by_cases e2 : ctCode 200 c ts (b + 1) n = 0
        · rw [if_neg (by simpa using e2)] at h hr
          by_cases e3 : eqII (twVal 200 c ts b n) (twVal 200 c ts (b + 1) n) = true
          · rw [if_pos e3] at h hr
            subst hr
            exact ⟨e1, e2, of_decide_eq_true e3, Int.le_refl _, by push_cast; omega⟩
          · rw [if_neg e3] at h hr
            obtain ⟨a1, a2, a3, a4, a5⟩ := ih (b + 1) h r hr
            exact ⟨a1, a2, a3, by omega, by push_cast; omega⟩
        · rw [if_pos (by simpa using e2)] at h
          exact absurd h e2
      · rw [if_pos (by simpa using e1)] at h
        exact absurd h e1
  obtain ⟨a1, a2, a3, a4, a5⟩ := key 2 1 h _ rfl
  exact ⟨a1, a2, a3, a4, by show (shR c ts n).1 ≤ 2; unfold shR; omega⟩
/-- what is said of the widest filling and the numbers of fillings -/
theorem wf_facts {c : Int} {ts : List T4} {h : Int} (hc : wfCode c ts h = 0) : tsCode c ts h true = 0 ∧ 0 ≤ wfVal c ts h ∧ ∀ q : Nat, wfVal c ts h = (q : Int) → (∀ m : Nat, m < q → 0 < seqN (powC c h.toNat).toNat (lev c ts h.toNat) (m + 1)) ∧ seqN (powC c h.toNat).toNat (lev c ts h.toNat) (q + 1) = 0 := by
  unfold wfCode at hc
  have hz : tsCode c ts h true = 0 := by
    by_cases e : tsCode c ts h true = 0
    · exact e
    · rw [if_neg e] at hc; exact hc
  rw [if_pos hz] at hc
  refine ⟨hz, by unfold wfVal; rw [if_pos hz]; omega, fun q hq => ?_⟩
  unfold wfVal at hq
  rw [if_pos hz] at hq
  generalize (powC c h.toNat).toNat = S at *
  generalize lev c ts h.toNat = cols at *
  cases e : wfN S cols with
  | none => rw [e] at hc; exact absurd hc (by decide)
  | some p =>
    rw [e] at hq
    have hp : p = q := by
      have hq2 : ((p : Nat) : Int) = (q : Int) := hq
      omega
    subst hp
    unfold wfN at e
    have e1 := List.find?_some e
    have e2 := List.find?_eq_some_iff_append.1 e
    refine ⟨fun m hm => (seqN_pos S cols (m + 1)).2 ?_, ?_⟩
    · obtain ⟨_, l1, l2, eab, hall⟩ := e2
      have hlen : l1.length = p := by
        have h1 : (List.range (cols.length + 1))[l1.length]? = some p := by rw [eab]; simp
        rw [List.getElem?_range] at h1
        · injection h1
        · have := congrArg List.length eab; simp at this; omega
      have hm2 : m ∈ l1 := by
        have h1 : (List.range (cols.length + 1))[m]? = some m := by
          rw [List.getElem?_range]
          have := congrArg List.length eab; simp at this; omega
        rw [eab, List.getElem?_append_left (by omega)] at h1
        exact List.mem_of_getElem? h1
      simpa using hall m hm2
    · have h0 : ¬ 0 < seqN S cols (p + 1) := fun hpos => by
        have h9 := (seqN_pos S cols (p + 1)).1 hpos
        rw [h9] at e1
        cases e1
      have := (seqN_in S cols (p + 1)).1
      omega

end Go.Proofs.YtnoehaphbpkpjaaGreat
namespace Go.Proofs.YtnoehaphbpkpjaaGreat
open Go.RowKit
set_option maxRecDepth 100000 in
set_option maxHeartbeats 1000000 in
theorem DrawStableHeight_c (A : Option Addr) (cx : Nat) (code : List Int) (w : World) (h : BytesC w A code) (hok : BytesOk code) :
    Calls Tryz.prog 22 #[.slice A code.length cx] w fun e w' => ∃ c ts S cs, SetRes w w' ts S ∧ ∃ n : Int, e = .returned (.tuple #[.agg #[.int .i64 c, .slice S ts.length cs], .int .i64 n]) := by
  have HF := Lib.hid (fun (W : World) (hW : Below w.heap.size w W) => l10Draw_c A cx code W (h.below hW) hok)
  clear h hok
  go_enter Tryz.func22, Tryz.ntmps22
  go_wp2_with fail
  obtain ⟨w0, hw0⟩ : ∃ w0, w0 = w.alloc (.cells #[.int .i64 0, .slice none 0 0] 32) := ⟨_, rfl⟩
  have HBw : Hid (Below w.heap.size w w0) := by rw [hw0]; exact below_al (Below.refl _ _)
  have HR : Hid (Blk w0 w.heap.size [.int .i64 0, .slice none 0 0] 32) := by rw [hw0]; exact Blk.newA _ _ _
  have HZ : Hid (w0.heap.size = w.heap.size + 1) := by rw [hw0]; simp [Hid]
  rw [← hw0]
  clear hw0
  refine (HF.out _ HBw.out).mono ?_
  rintro e w1 ⟨c, ts, S, cs, hh, n, rfl, hO, hl, hb⟩
  replace HR := Lib.hid (HR.out.under hb)
  have HO := Lib.hid hO
  replace HBw := Lib.hid (HBw.out.trans (hb.mono HBw.out.size))
  clear hO hb HF
  go_upto_region 2 with (fail)
  obtain ⟨w2, hw2⟩ : ∃ w2, w2 = w1.alloc (.cells #[.int .i64 c, .slice S ts.length cs] 32) := ⟨_, rfl⟩
  obtain ⟨gb, hgb⟩ : ∃ gb, gb = w1.heap.size := ⟨_, rfl⟩
  have hb : Below w1.heap.size w1 w2 := by rw [hw2]; exact below_al (Below.refl _ _)
  have HK : Hid (Blk w2 gb [.int .i64 c, .slice S ts.length cs] 32) := by rw [hw2, hgb]; exact Blk.newA _ _ _
  rw [← hw2, ← hgb]
  clear hw2 hgb
  replace HR := Lib.hid (HR.out.under hb)
  replace HO := Lib.hid (HO.out.below hb)
  replace HBw := Lib.hid (HBw.out.trans (hb.mono HBw.out.size))
  clear hb
  have k0 := HK.out.cell 0 (by simp)
  have k1 := HK.out.cell 1 (by simp)
  simp only [List.getElem_cons_zero, List.getElem_cons_succ] at k0 k1
  have y0 := HR.out.cell 0 (by simp)
  have y1 := HR.out.cell 1 (by simp)
  have g0 := HR.out.frozen 0
  have g1 := HR.out.frozen 1
  simp only [List.getElem_cons_zero, List.getElem_cons_succ] at y0 y1
  go_wp2
  refine bodyPost_ret (v := .tuple #[.agg #[.int .i64 c, .slice S ts.length cs], .int .i64 n]) (by
    have x0 := ((HR.out.set 0 (.int .i64 c)).set 1 (.slice S ts.length cs)).cell 0 (by simp)
    have x1 := ((HR.out.set 0 (.int .i64 c)).set 1 (.slice S ts.length cs)).cell 1 (by simp)
    simp only [List.set_cons_zero, List.set_cons_succ, List.getElem_cons_zero, List.getElem_cons_succ] at x0 x1
    simp [results, Tryz.results22, go_sem, x0, x1]) rfl ?_
  have hz := HZ.out
  exact ⟨c, ts, S, cs, ⟨OwnT.cells ((HO.out.other w.heap.size 0 (by omega) _).other w.heap.size 1 (by omega) _), hl, (HBw.out.setCell (Nat.le_refl _) _).setCell (Nat.le_refl _) _⟩, n, rfl⟩
set_option maxRecDepth 100000 in
set_option maxHeartbeats 1000000 in
theorem DrawWidestFilling_c (A : Option Addr) (cx : Nat) (code : List Int) (w : World) (h : BytesC w A code) (hok : BytesOk code) :
    Calls Tryz.prog 25 #[.slice A code.length cx] w fun e w' => ∃ c ts S cs, SetRes w w' ts S ∧ ∃ h : Int, e = .returned (.tuple #[.agg #[.int .i64 c, .slice S ts.length cs], .int .i64 h]) := by
  have HF := Lib.hid (fun (W : World) (hW : Below w.heap.size w W) => l10Draw_c A cx code W (h.below hW) hok)
  clear h hok
  go_enter Tryz.func25, Tryz.ntmps25
  go_wp2_with fail
  obtain ⟨w0, hw0⟩ : ∃ w0, w0 = w.alloc (.cells #[.int .i64 0, .slice none 0 0] 32) := ⟨_, rfl⟩
  have HBw : Hid (Below w.heap.size w w0) := by rw [hw0]; exact below_al (Below.refl _ _)
  have HR : Hid (Blk w0 w.heap.size [.int .i64 0, .slice none 0 0] 32) := by rw [hw0]; exact Blk.newA _ _ _
  have HZ : Hid (w0.heap.size = w.heap.size + 1) := by rw [hw0]; simp [Hid]
  rw [← hw0]
  clear hw0
  refine (HF.out _ HBw.out).mono ?_
  rintro e w1 ⟨c, ts, S, cs, hh, n, rfl, hO, hl, hb⟩
  replace HR := Lib.hid (HR.out.under hb)
  have HO := Lib.hid hO
  replace HBw := Lib.hid (HBw.out.trans (hb.mono HBw.out.size))
  clear hO hb HF
  go_upto_region 2 with (fail)
  obtain ⟨w2, hw2⟩ : ∃ w2, w2 = w1.alloc (.cells #[.int .i64 c, .slice S ts.length cs] 32) := ⟨_, rfl⟩
  obtain ⟨gb, hgb⟩ : ∃ gb, gb = w1.heap.size := ⟨_, rfl⟩
  have hb : Below w1.heap.size w1 w2 := by rw [hw2]; exact below_al (Below.refl _ _)
  have HK : Hid (Blk w2 gb [.int .i64 c, .slice S ts.length cs] 32) := by rw [hw2, hgb]; exact Blk.newA _ _ _
  rw [← hw2, ← hgb]
  clear hw2 hgb
  replace HR := Lib.hid (HR.out.under hb)
  replace HO := Lib.hid (HO.out.below hb)
  replace HBw := Lib.hid (HBw.out.trans (hb.mono HBw.out.size))
  clear hb
  have k0 := HK.out.cell 0 (by simp)
  have k1 := HK.out.cell 1 (by simp)
  simp only [List.getElem_cons_zero, List.getElem_cons_succ] at k0 k1
  have y0 := HR.out.cell 0 (by simp)
  have y1 := HR.out.cell 1 (by simp)
  have g0 := HR.out.frozen 0
  have g1 := HR.out.frozen 1
  simp only [List.getElem_cons_zero, List.getElem_cons_succ] at y0 y1
  go_wp2
  refine bodyPost_ret (v := .tuple #[.agg #[.int .i64 c, .slice S ts.length cs], .int .i64 hh]) (by
    have x0 := ((HR.out.set 0 (.int .i64 c)).set 1 (.slice S ts.length cs)).cell 0 (by simp)
    have x1 := ((HR.out.set 0 (.int .i64 c)).set 1 (.slice S ts.length cs)).cell 1 (by simp)
    simp only [List.set_cons_zero, List.set_cons_succ, List.getElem_cons_zero, List.getElem_cons_succ] at x0 x1
    simp [results, Tryz.results25, go_sem, x0, x1]) rfl ?_
  have hz := HZ.out
  exact ⟨c, ts, S, cs, ⟨OwnT.cells ((HO.out.other w.heap.size 0 (by omega) _).other w.heap.size 1 (by omega) _), hl, (HBw.out.setCell (Nat.le_refl _) _).setCell (Nat.le_refl _) _⟩, hh, rfl⟩
set_option maxRecDepth 100000 in
set_option maxHeartbeats 1000000 in
theorem DrawLeastForbidden_c (A : Option Addr) (cx : Nat) (code : List Int) (w : World) (h : BytesC w A code) (hok : BytesOk code) :
    Calls Tryz.prog 19 #[.slice A code.length cx] w fun e w' => ∃ c ts S cs, SetRes w w' ts S ∧ ∃ h n : Int, e = .returned (.tuple #[.agg #[.int .i64 c, .slice S ts.length cs], .int .i64 h, .int .i64 n]) := by
  have HF := Lib.hid (fun (W : World) (hW : Below w.heap.size w W) => l10Draw_c A cx code W (h.below hW) hok)
  clear h hok
  go_enter Tryz.func19, Tryz.ntmps19
  go_wp2_with fail
  obtain ⟨w0, hw0⟩ : ∃ w0, w0 = w.alloc (.cells #[.int .i64 0, .slice none 0 0] 32) := ⟨_, rfl⟩
  have HBw : Hid (Below w.heap.size w w0) := by rw [hw0]; exact below_al (Below.refl _ _)
  have HR : Hid (Blk w0 w.heap.size [.int .i64 0, .slice none 0 0] 32) := by rw [hw0]; exact Blk.newA _ _ _
  have HZ : Hid (w0.heap.size = w.heap.size + 1) := by rw [hw0]; simp [Hid]
  rw [← hw0]
  clear hw0
  refine (HF.out _ HBw.out).mono ?_
  rintro e w1 ⟨c, ts, S, cs, hh, n, rfl, hO, hl, hb⟩
  replace HR := Lib.hid (HR.out.under hb)
  have HO := Lib.hid hO
  replace HBw := Lib.hid (HBw.out.trans (hb.mono HBw.out.size))
  clear hO hb HF
  go_upto_region 2 with (fail)
  obtain ⟨w2, hw2⟩ : ∃ w2, w2 = w1.alloc (.cells #[.int .i64 c, .slice S ts.length cs] 32) := ⟨_, rfl⟩
  obtain ⟨gb, hgb⟩ : ∃ gb, gb = w1.heap.size := ⟨_, rfl⟩
  have hb : Below w1.heap.size w1 w2 := by rw [hw2]; exact below_al (Below.refl _ _)
  have HK : Hid (Blk w2 gb [.int .i64 c, .slice S ts.length cs] 32) := by rw [hw2, hgb]; exact Blk.newA _ _ _
  rw [← hw2, ← hgb]
  clear hw2 hgb
  replace HR := Lib.hid (HR.out.under hb)
  replace HO := Lib.hid (HO.out.below hb)
  replace HBw := Lib.hid (HBw.out.trans (hb.mono HBw.out.size))
  clear hb
  have k0 := HK.out.cell 0 (by simp)
  have k1 := HK.out.cell 1 (by simp)
  simp only [List.getElem_cons_zero, List.getElem_cons_succ] at k0 k1
  have y0 := HR.out.cell 0 (by simp)
  have y1 := HR.out.cell 1 (by simp)
  have g0 := HR.out.frozen 0
  have g1 := HR.out.frozen 1
  simp only [List.getElem_cons_zero, List.getElem_cons_succ] at y0 y1
  go_wp2
  refine bodyPost_ret (v := .tuple #[.agg #[.int .i64 c, .slice S ts.length cs], .int .i64 hh, .int .i64 (min n 6)]) (by
    have x0 := ((HR.out.set 0 (.int .i64 c)).set 1 (.slice S ts.length cs)).cell 0 (by simp)
    have x1 := ((HR.out.set 0 (.int .i64 c)).set 1 (.slice S ts.length cs)).cell 1 (by simp)
    simp only [List.set_cons_zero, List.set_cons_succ, List.getElem_cons_zero, List.getElem_cons_succ] at x0 x1
    simp [results, Tryz.results19, go_sem, x0, x1]) rfl ?_
  have hz := HZ.out
  exact ⟨c, ts, S, cs, ⟨OwnT.cells ((HO.out.other w.heap.size 0 (by omega) _).other w.heap.size 1 (by omega) _), hl, (HBw.out.setCell (Nat.le_refl _) _).setCell (Nat.le_refl _) _⟩, hh, min n 6, rfl⟩

end Go.Proofs.YtnoehaphbpkpjaaGreat
