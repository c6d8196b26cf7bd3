/- Contracts and lemmas for the statements of this seat, written for this claim; each theorem states its own conditions. -/
import Derived.Test.YtkgnejhflnekaaaGreatMuD4
import Derived.Test.YtkgnejhflnekaaaGreatMuJ5
import Derived.Test.YtkgnejhflnekaaaGreatMuJ8
import Derived.Test.YtkgnejhflnekaaaGreatMuFa
import Derived.Test.YtkgnejhflnekaaaGreatMuN8
import Derived.Test.YtkgnejhflnekaaaGreatMuCp
set_option linter.unusedVariables false
set_option linter.unusedSimpArgs false
namespace Go.Proofs.YtkgnejhflnekaaaGreat
open Go.RowKit
/-! multiplying sets are balanced, and rows of numbers have their digits: plain laws -/
theorem mTiles_form {p q m n u v : Int} {x : T4} (h : x ∈ mTiles p q m n u v) : ∃ l d e, (1 - p ≤ l ∧ l ≤ q - 1) ∧ (m ≤ d ∧ d ≤ n) ∧ (u ≤ e ∧ e ≤ v) ∧ (1 - p ≤ p * d + l - q * e ∧ p * d + l - q * e ≤ q - 1) ∧ x = ⟨l + p - 1, d, p * d + l - q * e + p - 1, e⟩ := by
  unfold mTiles mAll at h
  obtain ⟨j1, h1, h⟩ := List.mem_flatMap.1 h
  unfold mDs at h
  obtain ⟨j2, h2, h⟩ := List.mem_flatMap.1 h
  unfold mRow at h
  obtain ⟨j3, h3, h⟩ := List.mem_flatMap.1 h
  have h1 := List.mem_range.1 h1
  have h2 := List.mem_range.1 h2
  have h3 := List.mem_range.1 h3
  unfold mCell at h
  split at h
  · rename_i hc
    have := List.mem_singleton.1 h
    exact ⟨1 - p + j1, m + j2, u + j3, ⟨by omega, by omega⟩, ⟨by omega, by omega⟩, ⟨by omega, by omega⟩, hc, this⟩
  · cases h
theorem setT_isSet {c : Int} {ts : List T4} (h1 : 1 ≤ c) (h6 : c ≤ 6) (hl : (setT ts).length ≤ 16) (h : ∀ t ∈ ts, TIn c t) : isSetB c (setT ts) = true := by
  refine isSetB_all (inR_iff.2 ⟨h1, h6⟩) hl fun j hj => ?_
  rw [okAt_eq hj (by omega), Bool.and_eq_true]
  have hm := (setT_mem ts _).1 (List.getElem_mem hj)
  obtain ⟨⟨a0, a1⟩, ⟨b0, b1⟩, ⟨c0, c1⟩, ⟨d0, d1⟩⟩ := h _ hm
  refine ⟨?_, ?_⟩
  · have hw : wrap64 (c - 1) = c - 1 := by unfold wrap64; omega
    unfold isTileB T4.l
    rw [hw]
    simp only [List.all_cons, List.all_nil, Bool.and_true, Bool.and_eq_true]
    exact ⟨inR_iff.2 ⟨a0, by omega⟩, inR_iff.2 ⟨b0, by omega⟩, inR_iff.2 ⟨c0, by omega⟩, inR_iff.2 ⟨d0, by omega⟩⟩
  · by_cases e : j = 0
    · simp [e]
    · have hp := List.pairwise_iff_getElem.1 (setT_asc ts) (j - 1) j (by omega) hj (by omega)
      rw [hp]; simp
def TBal (p q : Int) (t : T4) : Prop := p * t.b + t.a = q * t.d + t.c
theorem bal_one {ts : List T4} {p q : Int} {k : Nat} (hk : k < ts.length) : balV ts [(k : Int)] p q = 0 ↔ TBal p q ts[k] := by
  have e : balV ts [(k : Int)] p q = ts[k].a - ts[k].c + (p * ts[k].b - q * ts[k].d) := by
    unfold balV balSum balAt
    simp [tA_nat ts k hk]
  rw [e]; unfold TBal
  constructor <;> intro h <;> omega
theorem balanced_iff {ts : List T4} {p q : Int} : balancedB ts p q = true ↔ ∀ t ∈ ts, TBal p q t := by
  unfold balancedB
  rw [List.all_eq_true]
  constructor
  · intro h t ht
    obtain ⟨k, hk, rfl⟩ := List.getElem_of_mem ht
    have := h k (List.mem_range.2 hk)
    exact (bal_one hk).1 (by simpa using this)
  · intro h k hk
    have hk := List.mem_range.1 hk
    have := (bal_one (p := p) (q := q) hk).2 (h _ (List.getElem_mem hk))
    simp [this]
/-- the balance of the first k tiles of a row of a balanced set -/
theorem bal_take {ts : List T4} {p q : Int} (hb : ∀ t ∈ ts, TBal p q t) {row : List Int} (hr : isRowB ts row = true) : ∀ k, k < row.length → balSum ts p q (row.take (k + 1)) = (tA ts (row.getD k 0)).c - (tA ts (row.getD 0 0)).a := by
  have hin := (isRowB_in hr).1
  have h2 : ∀ j, j < row.length → rowAt ts row j = true := by
    unfold isRowB at hr
    rw [Bool.and_eq_true, List.all_eq_true] at hr
    exact fun j hj => hr.2 j (List.mem_range.2 hj)
  have one : ∀ k (hk : k < row.length), balAt ts p q row[k] = (tA ts (row.getD k 0)).c - (tA ts (row.getD k 0)).a := fun k hk => by
    obtain ⟨x0, x1⟩ := hin k hk
    obtain ⟨m, hm⟩ := Int.eq_ofNat_of_zero_le x0
    have hml : m < ts.length := by omega
    have := hb _ (List.getElem_mem hml)
    unfold balAt
    rw [show row.getD k 0 = row[k] by simp [hk], hm, tA_nat ts m hml]
    unfold TBal at this
    omega
  intro k
  induction k with
  | zero =>
    intro hk
    rw [balSum_succ ts p q row 0 hk, one 0 hk]
    simp [balSum]
  | succ k ih =>
    intro hk
    rw [balSum_succ ts p q row (k + 1) hk, ih (by omega), one (k + 1) hk]
    have h3 := h2 (k + 1) hk
    unfold rowAt at h3
    rw [Bool.and_eq_true, Bool.or_eq_true] at h3
    rcases h3.2 with h4 | h4
    · simp at h4
    · rw [show k + 1 - 1 = k by omega] at h4
      have h4 := beq_iff_eq.1 h4
      rw [h4]; omega
theorem bal_zero {ts : List T4} {p q : Int} (hb : balancedB ts p q = true) {row : List Int} (hr : isRowB ts row = true) : balV ts row p q = 0 := by
  obtain ⟨-, h1, -⟩ := isRowB_in hr
  have h := bal_take (balanced_iff.1 hb) hr (row.length - 1) (by omega)
  rw [show row.length - 1 + 1 = row.length by omega, List.take_length] at h
  unfold balV
  rw [h]; omega
theorem codeB_both {s b : Bool} (h1 : s = true) (h2 : b = true) : codeB s b = 0 := by rw [h1, h2]; rfl
theorem fac_facts {c : Int} {ts : List T4} : ∀ k (hk : k < (facV c ts).length), ∃ p q, (facV c ts)[k] = [p, q] ∧ codeB (isSetB c ts) (fiveB p q) = 0 ∧ isBalV c ts p q = true := by
  intro k hk
  have hm := List.getElem_mem hk
  generalize (facV c ts)[k] = r at *
  unfold facV at hm
  split at hm
  · rename_i hs
    unfold facs at hm
    obtain ⟨p, hp, hm⟩ := List.mem_flatMap.1 hm
    obtain ⟨j, hj, rfl⟩ := List.mem_map.1 hp
    have hj := List.mem_range.1 hj
    unfold facRow at hm
    obtain ⟨q, hq, hm⟩ := List.mem_flatMap.1 hm
    obtain ⟨i, hi, rfl⟩ := List.mem_map.1 hq
    have hi := List.mem_range.1 hi
    split at hm
    · rename_i hf
      have := List.mem_singleton.1 hm
      subst this
      have h5 : fiveB ((j : Int) + 1) ((i : Int) + 1) = true := fiveB_iff.2 ⟨⟨by omega, by omega⟩, by omega, by omega⟩
      unfold facOk at hf
      rw [Bool.and_eq_true] at hf
      refine ⟨_, _, rfl, codeB_both hs h5, ?_⟩
      unfold isBalV
      rw [hs, h5, hf.2]; rfl
    · cases hm
  · cases hm
theorem balrow_facts {c : Int} {ts : List T4} {row : List Int} {p q : Int} (h : codeB (isSetB c ts) (isRowB ts row && fiveB p q) = 0) : codeB (isSetB c ts) (fiveB p q) = 0 ∧ (isBalV c ts p q = true → balRowV c ts row p q = 0) := by
  obtain ⟨h1, h2⟩ := codeB_zero h
  rw [Bool.and_eq_true] at h2
  refine ⟨codeB_both h1 h2.2, fun hb => ?_⟩
  unfold isBalV at hb
  rw [Bool.and_eq_true] at hb
  unfold balRowV
  split
  · exact bal_zero hb.2 h2.1
  · rfl
theorem mset_facts {p q m n u v : Int} (hf : factB p q = true) (h0 : 0 ≤ m) (h1 : m ≤ n) (h2 : n ≤ 5) (h3 : 0 ≤ u) (h4 : u ≤ v) (h5 : v ≤ 5) (hk : mCode p q m n u v = 0) :
    isSetB (mCol p q m n u v) (mSet p q m n u v) = true ∧ ∀ t ∈ mSet p q m n u v, TBal p q t := by
  obtain ⟨⟨p1, p3⟩, q1, q3⟩ := factB_iff.1 hf
  have hlen := mSet_len p q m n u v
  unfold mCode at hk
  split at hk
  · rename_i hl
    have hS : mSet p q m n u v = setT (mTiles p q m n u v) := by unfold mSet; rw [if_pos hl]
    have hC : mCol p q m n u v = max (max (p + q - 1) (n + 1)) (v + 1) := by unfold mCol; rw [if_pos hl]; rfl
    rw [hS] at hlen
    rw [hS, hC]
    refine ⟨setT_isSet (by omega) (by omega) hlen fun t ht => ?_, fun t ht => ?_⟩
    · obtain ⟨l, d, e, hl1, hd1, he1, hr1, rfl⟩ := mTiles_form ht
      refine ⟨⟨?_, ?_⟩, ⟨?_, ?_⟩, ⟨?_, ?_⟩, ⟨?_, ?_⟩⟩ <;> (try dsimp only) <;> omega
    · obtain ⟨l, d, e, hl1, hd1, he1, hr1, rfl⟩ := mTiles_form ((setT_mem _ t).1 ht)
      unfold TBal
      dsimp only
      omega
  · simp at hk
theorem five_of_fact {p q : Int} (h : factB p q = true) : fiveB p q = true := by
  obtain ⟨h1, h2⟩ := factB_iff.1 h
  exact fiveB_iff.2 ⟨by omega, by omega⟩
theorem ms_facts {p q m n u v : Int} : (msCode p q m n u v = 0 → isSetB (msCol p q m n u v) (msSet p q m n u v) = true ∧ codeB (isSetB (msCol p q m n u v) (msSet p q m n u v)) (fiveB p q) = 0 ∧ isBalV (msCol p q m n u v) (msSet p q m n u v) p q = true) ∧ (msCode p q m n u v ≠ 0 → msCol p q m n u v = 0) := by
  by_cases ho : okM p q m n u v
  · obtain ⟨hf, h0, h1, h2, h3, h4, h5⟩ := id ho
    have e1 : msCode p q m n u v = mCode p q m n u v := by unfold msCode; rw [if_pos ho]
    have e2 : msCol p q m n u v = mCol p q m n u v := by unfold msCol; rw [if_pos ho]
    have e3 : msSet p q m n u v = mSet p q m n u v := by unfold msSet; rw [if_pos ho]
    rw [e1, e2, e3]
    constructor
    · intro hk
      obtain ⟨s1, s2⟩ := mset_facts hf h0 h1 h2 h3 h4 h5 hk
      refine ⟨s1, codeB_both s1 (five_of_fact hf), ?_⟩
      unfold isBalV
      rw [s1, five_of_fact hf, balanced_iff.2 s2]; rfl
    · intro hk
      unfold mCode at hk
      unfold mCol
      split at hk
      · exact absurd rfl hk
      · rename_i hl; rw [if_neg hl]
  · constructor
    · intro hk
      unfold msCode at hk
      rw [if_neg ho] at hk
      simp at hk
    · intro _
      unfold msCol
      rw [if_neg ho]
/-- a row of numbers is a row of its multiplying set, and has the digits as its north word -/
theorem nr_facts {p q a b s n : Int} (h : nrCode p q a b s n = 0) : worCode (nrCol p q a b s n) (nrSet p q a b s n) (nrRow p q a b s n) = 0 ∧ worN (nrCol p q a b s n) (nrSet p q a b s n) (nrRow p q a b s n) = digXs a b s n ∧ digCode a b s n = 0 ∧
    codeB (isSetB (nrCol p q a b s n) (nrSet p q a b s n)) (isRowB (nrSet p q a b s n) (nrRow p q a b s n) && fiveB p q) = 0 ∧ balRowV (nrCol p q a b s n) (nrSet p q a b s n) (nrRow p q a b s n) p q = 0 := by
  have ho : okN p q a b s n := by
    unfold nrCode at h
    split at h
    · assumption
    · simp at h
  have hk : nK p q a b s n = 0 := by
    unfold nrCode at h
    rwa [if_pos ho] at h
  obtain ⟨hf, hfr, hpl, hap⟩ := id ho
  obtain ⟨⟨p1, p3⟩, q1, q3⟩ := factB_iff.1 hf
  obtain ⟨⟨b1, b2⟩, a0, a5⟩ := fracB_iff.1 hfr
  obtain ⟨⟨s1, s2⟩, n1, n2⟩ := placesB_iff.1 hpl
  have eC : nrCol p q a b s n = nC p q a b s n := by unfold nrCol; rw [if_pos ⟨ho, hk⟩]
  have eS : nrSet p q a b s n = nS p q a b s n := by unfold nrSet; rw [if_pos ⟨ho, hk⟩]
  have eR : nrRow p q a b s n = nR p q a b s n := by unfold nrRow; rw [if_pos ⟨ho, hk⟩]
  rw [eC, eS, eR]
  have hbq : 1 ≤ b * q := by
    have := Int.mul_le_mul b1 q1 (by omega) (by omega : (0 : Int) ≤ b)
    omega
  have hap0 : 0 ≤ a * p := Int.mul_nonneg a0 (by omega)
  have hap5 : a * p ≤ 5 * (b * q) := by rw [← Int.mul_assoc]; exact hap
  have hnn : 0 < n.toNat := by omega
  obtain ⟨d0, d1, d2⟩ := digs_ends (s := s) (n := n.toNat) b1 a0 a5 hnn
  obtain ⟨e0, e1, e2⟩ := digs_ends (s := s) (n := n.toNat) hbq hap0 hap5 hnn
  obtain ⟨hset, hbal⟩ := mset_facts hf d0 d1 d2 e0 e1 e2 hk
  have hset' : isSetB (nC p q a b s n) (nS p q a b s n) = true := hset
  have hown : ∀ i, i < n.toNat → nOwn p (nD a b s n) (nD (a * p) (b * q) s n) (nB p q a b s n) i ∈ nS p q a b s n := fun i hi => mSet_mem hk (nOwn_mem p1 q1 b1 a0 s1 i hi)
  have hidx : ∀ i, i < n.toNat → ∃ m : Nat, nIdx (nS p q a b s n) (nOwn p (nD a b s n) (nD (a * p) (b * q) s n) (nB p q a b s n) i) = (m : Int) ∧ ∃ hm : m < (nS p q a b s n).length, (nS p q a b s n)[m] = nOwn p (nD a b s n) (nD (a * p) (b * q) s n) (nB p q a b s n) i := fun i hi => by
    have hm := hown i hi
    generalize nOwn p (nD a b s n) (nD (a * p) (b * q) s n) (nB p q a b s n) i = t at *
    generalize nS p q a b s n = ts at *
    unfold nIdx idxT
    cases e : ts.findIdx? (fun x => decide (t = x)) with
    | none =>
      rw [List.findIdx?_eq_none_iff] at e
      have := e t hm
      simp at this
    | some m =>
      obtain ⟨hm2, h1, -⟩ := List.findIdx?_eq_some_iff_getElem.1 e
      exact ⟨m, rfl, hm2, (by simpa using h1 : t = ts[m]).symm⟩
  have hlen : (nR p q a b s n).length = n.toNat := nRow_len _ _ _ _ _ _
  have hget : ∀ i, i < n.toNat → (nR p q a b s n).getD i 0 = nIdx (nS p q a b s n) (nOwn p (nD a b s n) (nD (a * p) (b * q) s n) (nB p q a b s n) i) := fun i hi => by
    unfold nR nRow
    simp [hi]
  have htA : ∀ i, i < n.toNat → tA (nS p q a b s n) ((nR p q a b s n).getD i 0) = nOwn p (nD a b s n) (nD (a * p) (b * q) s n) (nB p q a b s n) i ∧ 0 ≤ (nR p q a b s n).getD i 0 ∧ (nR p q a b s n).getD i 0 < (nS p q a b s n).length := fun i hi => by
    obtain ⟨m, e1, hm, e2⟩ := hidx i hi
    rw [hget i hi, e1, tA_nat _ m hm, e2]
    exact ⟨rfl, by omega, by omega⟩
  have hrow : isRowB (nS p q a b s n) (nR p q a b s n) = true := by
    rw [rowAt_all fun j hj => ?_]
    · rw [hlen]; exact inR_iff.2 ⟨by omega, by omega⟩
    · rw [hlen] at hj
      obtain ⟨t1, t2, t3⟩ := htA j hj
      unfold rowAt
      rw [Bool.and_eq_true]
      refine ⟨inR_iff.2 ⟨t2, by omega⟩, ?_⟩
      by_cases e : j = 0
      · simp [e]
      · obtain ⟨u1, -, -⟩ := htA (j - 1) (by omega)
        rw [Bool.or_eq_true]
        right
        rw [beq_iff_eq, t1, u1]
        unfold nOwn
        dsimp only
        rw [show j - 1 + 1 = j by omega]
  have hw : worCode (nC p q a b s n) (nS p q a b s n) (nR p q a b s n) = 0 := codeB_both hset' hrow
  refine ⟨hw, ?_, ?_, ?_, ?_⟩
  · unfold worN
    rw [if_pos hw]
    unfold digXs
    rw [if_pos (by rw [hfr, hpl]; rfl)]
    refine List.ext_getElem (by simp [norths, hlen, digs]) fun i hi hi' => ?_
    have hi2 : i < n.toNat := by simpa [norths, hlen] using hi
    have hg : (norths (nS p q a b s n) (nR p q a b s n))[i] = (tA (nS p q a b s n) ((nR p q a b s n).getD i 0)).b := by
      simp [norths, hlen, hi2]
    rw [hg, (htA i hi2).1]
    unfold nOwn nD
    simp [digs, hi2]
  · unfold digCode; rw [if_pos (by rw [hfr, hpl]; rfl)]
  · exact codeB_both hset' (by rw [hrow, five_of_fact hf]; rfl)
  · unfold balRowV
    split
    · exact bal_zero (balanced_iff.2 hbal) hrow
    · rfl
theorem digXs_l20 (a b p n : Int) : (digXs a b p n).length ≤ 20 := by
  unfold digXs
  split
  · rename_i h
    rw [Bool.and_eq_true] at h
    have := (placesB_iff.1 h.2).2
    rw [digs_len]; omega
  · simp
theorem facV_small (c : Int) (ts : List T4) : (facV c ts).length ≤ 25 ∧ Short 1000000 (facV c ts) := by
  unfold facV
  split
  · exact ⟨facs_len ts 5, Short_iff.2 fun r hr => by rw [facs_two ts 5 r hr]; omega⟩
  · exact ⟨by simp, fun k hk => by simp at hk⟩

end Go.Proofs.YtkgnejhflnekaaaGreat
