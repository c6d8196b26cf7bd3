/- Contracts and lemmas for the statements of this seat, written for this claim; each theorem states its own conditions. -/
import Derived.Deep.Cut
import Derived.Test.YtkgnejhflnekaaaGreatNgZ3
import Derived.Test.YtkgnejhflnekaaaGreatNgZ2
import Derived.Test.YtkgnejhflnekaaaGreatNgDr
import Derived.Test.YtkgnejhflnekaaaGreatNgQ3
set_option linter.unusedVariables false
set_option linter.unusedSimpArgs false
namespace Go.Proofs.YtkgnejhflnekaaaGreat
open Go.RowKit
attribute [local go_sem] addUpon_value addUpon_skip addUpon_enter
set_option maxRecDepth 100000 in
set_option maxHeartbeats 1000000 in
theorem sum_c (xs : List Int) (A : Option Addr) (cx : Nat) (w : World) (hC : Cells w A (ints xs)) (hp : NonNeg xs) (hs : isum xs ≤ 4611686018427387904) (hl : xs.length ≤ 1000000) :
    Calls Tryz.prog 25 #[.slice A xs.length cx] w fun e w' => e = .returned (.int .i64 (isum xs)) ∧ w = w' := by
  have HC := Lib.hid hC
  have HP := Lib.hid hp
  have HS := Lib.hid hs
  clear hC hp hs
  go_enter Tryz.func25, Tryz.ntmps25
  go_wp2_with fail
  go_loopw [3, 4] (fun v i wr => ∃ k : Nat, k ≤ xs.length ∧ i = .int .i64 (k : Nat) ∧ v = .int .i64 (isum (xs.take k)) ∧ Hid (w = wr)) (fun _ i _ => xs.length - (intOf i).toNat)
  case atStart => exact ⟨0, by omega, rfl, by simp [isum], rfl⟩
  case round =>
    obtain ⟨k, hk, rfl, rfl, HW⟩ := hrel
    by_cases h1 : k < xs.length
    · obtain ⟨b, off, rfl, hlt, hc⟩ := HC.out.int k h1
      have e := isum_take_succ xs k h1
      have hn0 := isum_nonneg (xs := xs.take k) (fun x hx => HP.out x (List.mem_of_mem_take hx))
      have hx0 := HP.out _ (List.getElem_mem h1)
      have hle : isum (xs.take (k + 1)) ≤ isum xs := by
        have h2 := isum_nonneg (xs := xs.drop (k + 1)) (fun x hx => HP.out x (List.mem_of_mem_drop hx))
        have app : ∀ a b : List Int, isum (a ++ b) = isum a + isum b := fun a b => by
          induction a with
          | nil => simp [isum]
          | cons x a ih => simp only [List.cons_append, isum, ih]; omega
        have e2 := app (xs.take (k + 1)) (xs.drop (k + 1))
        rw [List.take_append_drop] at e2
        omega
      have HE := Lib.hid e
      have hs := HS.out
      rw [HW.out] at hc
      generalize xs[k] = y at *
      generalize isum (xs.take k) = n at *
      have hsum : n + y ≤ 4611686018427387904 := by omega
      clear e hle
      go_wp2_with fail
      go_roundw
      case rel => exact ⟨k + 1, by omega, by go_num, by rw [HE.out], HW⟩
      case measure => simp [intOf]; omega
    · obtain rfl : k = xs.length := by omega
      rw [List.take_length]
      go_wp2_with fail
      go_ret
      exact ⟨rfl, HW.out⟩
set_option maxRecDepth 100000 in
set_option maxHeartbeats 1000000 in
theorem hasInt_c (xs : List Int) (y : Int) (A : Option Addr) (cx : Nat) (w : World) (hC : Cells w A (ints xs)) (hl : xs.length ≤ 1000000) :
    Calls Tryz.prog 26 #[.slice A xs.length cx, .int .i64 y] w fun e w' => e = .returned (.bool (decide (y ∈ xs))) ∧ w = w' := by
  have HC := Lib.hid hC
  clear hC
  go_enter Tryz.func26, Tryz.ntmps26
  go_wp2_with fail
  go_loopw [5] (fun i wr => ∃ k : Nat, k ≤ xs.length ∧ i = .int .i64 (k : Nat) ∧ Hid (w = wr) ∧ Hid (∀ j (h : j < xs.length), j < k → xs[j] ≠ y)) (fun i _ => xs.length - (intOf i).toNat)
  case atStart => exact ⟨0, by omega, rfl, rfl, fun j _ h => by omega⟩
  case round =>
    obtain ⟨k, hk, rfl, HW, HN⟩ := hrel
    by_cases h1 : k < xs.length
    · obtain ⟨b, off, rfl, hlt, hc⟩ := HC.out.int k h1
      rw [HW.out] at hc
      by_cases he : xs[k] = y
      · have HV : Hid (decide (y ∈ xs) = true) := decide_eq_true (he ▸ List.getElem_mem h1)
        have hq : (xs[k] == y) = true := by simp [he]
        clear he
        generalize xs[k] = z at *
        go_wp2_with fail
        go_ret
        exact ⟨by rw [HV.out]; rfl, HW.out⟩
      · have HN2 : Hid (∀ j (h : j < xs.length), j < k + 1 → xs[j] ≠ y) := fun j h hj => by
          by_cases e : j = k
          · subst e; exact he
          · exact HN.out j h (by omega)
        have hq : (xs[k] == y) = false := by simp [he]
        clear he
        generalize xs[k] = z at *
        go_wp2_with fail
        go_roundw
        case rel => exact ⟨k + 1, by omega, by go_num, HW, HN2⟩
        case measure => simp [intOf]; omega
    · have HV : Hid (decide (y ∈ xs) = false) := decide_eq_false fun hm => by
        obtain ⟨j, hj, e⟩ := List.getElem_of_mem hm
        exact HN.out j hj (by omega) e
      go_wp2_with fail
      go_ret
      exact ⟨by rw [HV.out]; rfl, HW.out⟩
set_option maxRecDepth 100000 in
set_option maxHeartbeats 1000000 in
theorem rows5_c (L : List (List Int)) (A B : Option Addr) (cx cy : Nat) (w : World) (hA : RowsC w A L) (hB : RowsC w B L) (hl : L.length ≤ 1000000) (hS : Short 1000000 L) :
    Calls Tryz.prog 34 #[.slice A L.length cx, .slice B L.length cy] w fun e w' => e = .returned (.bool true) ∧ Below w.heap.size w w' := by
  have HA := Lib.hid hA
  have HB := Lib.hid hB
  have HS := Lib.hid hS
  clear hA hB hS
  go_enter Tryz.func34, Tryz.ntmps34
  go_wp2_with fail
  go_loopw [5] (fun i wr => ∃ k : Nat, k ≤ L.length ∧ i = .int .i64 (k : Nat) ∧ Hid (Below w.heap.size w wr)) (fun i _ => L.length - (intOf i).toNat)
  case atStart => exact ⟨0, by omega, rfl, Below.refl _ _⟩
  case round =>
    obtain ⟨k, hk, rfl, HW⟩ := hrel
    by_cases h1 : k < L.length
    · obtain ⟨b, off, A', c1, rfl, hlt, hc, hr⟩ := (HA.out.below HW.out) k h1
      obtain ⟨b2, off2, B', c2, rfl, hlt2, hd, hr2⟩ := (HB.out.below HW.out) k h1
      have hs := HS.out k h1
      have HQ := Lib.hid (fun (W : World) (h : Below wr.heap.size wr W) => likeInts_c L[k] L[k] A' B' c1 c2 W (hr.below h) (hr2.below h) (by omega) (by omega))
      have hq : eqL L[k] L[k] = true := by simp [eqL]
      rw [hq] at HQ
      have e0 := keepC hc
      have f0 := keepC hd
      clear hc hd hr hr2 hq hs
      generalize L[k] = row at *
      go_wp2_with fail
      refine wp_region_add (fun w' => Below (wr).heap.size (wr) w') (by kernel_rfl) (by kernel_rfl) ((Below.refl _ _).drew) ?_
      repeat (first
        | (refine add_skip rfl (fun K' hK' => ?_); go_simp; refine hK' _ ?_; clear hK' K')
        | (refine add_do (v := ?_) rfl (fun w1 hb => ?_) (fun K' hK' => ?_); rotate_left
           · go_simp
             first
             | (with_reducible exact rfl)
             | (with_reducible exact ⟨rfl, hb⟩)
             | (with_reducible exact (addCall (HQ.out w1 hb) hb).2)
             | exact (addCall (HQ.out w1 hb) hb).2
             | exact rfl
             | exact ⟨rfl, hb⟩
           go_simp; refine hK' _ ?_; clear hK' K'))
      refine add_nil ?_
      intro wa hba
      have HW2 := Lib.hid (HW.out.trans (hba.mono HW.out.size))
      clear hba e0 f0
      go_wp2_with fail
      go_roundw
      case rel => exact ⟨k + 1, by omega, by go_num, HW2⟩
      case measure => simp [intOf]; omega
    · go_wp2_with fail
      go_ret
      exact ⟨rfl, HW.out⟩

end Go.Proofs.YtkgnejhflnekaaaGreat
namespace Go.Proofs.YtkgnejhflnekaaaGreat
open Go.RowKit
/-! what the law of the numbers grown asks of the values, in plain words -/
theorem tg_zero {c : Int} {ts : List T4} {L : List (List Int)} {i n most : Int} (h : codeB (isSetB c ts) (stepB ts.length L i n most) = 0) : tgCode c ts L i = 0 := by
  obtain ⟨h1, h2⟩ := codeB_zero h
  have h3 : stepB ts.length L i 0 0 = true := by
    unfold stepB at h2 ⊢
    rw [Bool.and_eq_true, Bool.and_eq_true] at h2 ⊢
    exact ⟨h2.1, h2.2.1, by decide⟩
  unfold tgCode; rw [h1, h3]; rfl
theorem grow_zero {c : Int} {ts : List T4} {L : List (List Int)} {i : Int} (h : tgCode c ts L i = 0) : growCode c ts L i 2 = 0 := by
  obtain ⟨h1, h2⟩ := codeB_zero (show codeB (isSetB c ts) (stepB ts.length L i 0 0) = 0 from h)
  have h3 : stepB ts.length L i 2 3 = true := by
    unfold stepB at h2 ⊢
    rw [Bool.and_eq_true, Bool.and_eq_true] at h2 ⊢
    exact ⟨h2.1, h2.2.1, by decide⟩
  unfold growCode; rw [h1, h3]; rfl
theorem tgTo_mem {met : List Bool} {k j : Nat} (hj : j < k) (h : met.getD j false = true) : (j : Int) ∈ tgTo met k := by
  unfold tgTo
  exact List.mem_map.2 ⟨j, List.mem_filter.2 ⟨List.mem_range.2 hj, h⟩, rfl⟩
theorem num_facts {c : Int} {ts : List T4} {L : List (List Int)} {i n : Int} (h : numCode c ts L i n = 0) : tgCode c ts L i = 0 ∧ 0 ≤ n ∧ n ≤ 20 ∧ NonNeg (numV c ts L i n) ∧ isum (numV c ts L i n) = 4 ^ n.toNat ∧ i ∈ tgV c ts L i ∧
    ∀ k (hk : k < (numV c ts L i n).length), 0 < (numV c ts L i n)[k] → (k : Int) ∈ tgV c ts L i := by
  have ht := tg_zero (show codeB (isSetB c ts) (stepB ts.length L i n 20) = 0 from h)
  obtain ⟨h1, h2⟩ := codeB_zero (show codeB (isSetB c ts) (stepB ts.length L i n 20) = 0 from h)
  obtain ⟨hB, ⟨i0, i1⟩, n0, n1⟩ := stepB_parts h2
  have hv : numV c ts L i n = numsAt L i n.toNat := by unfold numV; rw [if_pos h]
  have hw : tgV c ts L i = tgTo (metV L i) L.length := by unfold tgV; rw [if_pos ht]
  obtain ⟨s1, s2⟩ := numsAt_sum hB i0 i1 n.toNat (by omega)
  have hN := hB.1
  obtain ⟨m, rfl⟩ := Int.eq_ofNat_of_zero_le i0
  refine ⟨ht, n0, n1, by rw [hv]; exact s2, by rw [hv]; exact s1, by rw [hw]; exact tgTo_mem (by omega) (metV_me (by omega)), fun k hk hp => ?_⟩
  rw [hw]
  have hk2 : k < (numsAt L (m : Int) n.toNat).length := by rw [← hv]; exact hk
  rw [numsAt_len] at hk2
  refine tgTo_mem hk2 (numsAt_met hB (by omega) n.toNat k ?_)
  rw [← hv, show (numV c ts L (m : Int) n).getD k 0 = (numV c ts L (m : Int) n)[k] by simp [hk]]
  omega
theorem cor_facts {c : Int} {ts : List T4} {L : List (List Int)} {i n : Int} (h : corCode c ts L i n = 0) (hl : ts.length ≤ 101) : cpCode c ts L i = 0 ∧ 0 ≤ n ∧ n ≤ 20 ∧ ((corV c ts L i n).length : Int) = n + 1 ∧
    ∃ f p : Nat, cpFrom c ts L i = f ∧ cpLen c ts L i = p ∧ 1 ≤ p ∧ f ≤ 1000 ∧ p ≤ 1000 ∧ ∀ k, f ≤ k → (h0 : k < (corV c ts L i n).length) → (hk : k + p < (corV c ts L i n).length) → (corV c ts L i n)[k] = (corV c ts L i n)[k + p] := by
  have ht : cpCode c ts L i = 0 := tg_zero (show codeB (isSetB c ts) (stepB ts.length L i n 20) = 0 from h)
  obtain ⟨h1, h2⟩ := codeB_zero (show codeB (isSetB c ts) (stepB ts.length L i n 20) = 0 from h)
  obtain ⟨hB, ⟨i0, i1⟩, n0, n1⟩ := stepB_parts h2
  have hv : corV c ts L i n = corners L i (n.toNat + 1) := by unfold corV; rw [if_pos h]
  obtain ⟨b, a, hr⟩ := rep_ex hB i0 i1
  have he := repOf_eq hr
  have hin := corner_in hB i0 i1
  have hb : b ≤ ts.length := pigeon ts.length (cornerAt L i) b (fun x _ => hin x) hr.1
  have hab := hr.2.1
  have hf : cpFrom c ts L i = (a : Int) := by unfold cpFrom; rw [if_pos ht, he]
  have hp : cpLen c ts L i = ((b - a : Nat) : Int) := by unfold cpLen; rw [if_pos ht, he]; omega
  refine ⟨ht, n0, n1, by rw [hv, corners_len]; omega, a, b - a, hf, hp, by omega, by omega, by omega, fun k hk h0 hlt => ?_⟩
  have hq := cor_period hr (k - a)
  rw [show a + (k - a) = k by omega, show b + (k - a) = k + (b - a) by omega] at hq
  have g : ∀ j (hj : j < (corV c ts L i n).length), (corV c ts L i n)[j] = cornerAt L i j := fun j hj => by
    simp only [hv, corners, List.getElem_map, List.getElem_range]
  rw [g, g]; exact hq
theorem pg_facts {c : Int} {ts : List T4} {L : List (List Int)} {i : Int} (h : tgCode c ts L i = 0) : growCode c ts L i 2 = 0 ∧ (∀ k (hk : k < (pgV c ts L i).length), (pgV c ts L i)[k].length = 2) ∧
    ∀ y (hy : y < (growV c ts L i 2).length), ∀ x (h0 : x < (growV c ts L i 2)[y].length) (hx : x + 1 < (growV c ts L i 2)[y].length), [(growV c ts L i 2)[y][x], (growV c ts L i 2)[y][x + 1]] ∈ pgV c ts L i := by
  have hg := grow_zero h
  obtain ⟨h1, h2⟩ := codeB_zero (show codeB (isSetB c ts) (stepB ts.length L i 0 0) = 0 from h)
  obtain ⟨hB, ⟨i0, i1⟩, _, _⟩ := stepB_parts h2
  have hv : pgV c ts L i = prows (prV L (metV L i)) := by unfold pgV; rw [if_pos h]
  have hw : growV c ts L i 2 = growAt L i 2 := by unfold growV; rw [if_pos hg]; rfl
  obtain ⟨m, rfl⟩ := Int.eq_ofNat_of_zero_le i0
  refine ⟨hg, fun k hk => ?_, fun y hy x h0 hx => ?_⟩
  · simp only [hv, prows, List.getElem_map, prow]; rfl
  · have hm : (growV c ts L (m : Int) 2)[y] ∈ growAt L (m : Int) 2 := by rw [← hw]; exact List.getElem_mem hy
    obtain ⟨ga, gb⟩ := growAt_adj hB (i := m) (by omega) 2 _ hm
    have hp := ga.at x hx
    obtain ⟨x0, xt⟩ := gb _ (List.getElem_mem (show x < (growV c ts L (m : Int) 2)[y].length by omega))
    obtain ⟨y0, yt⟩ := gb _ (List.getElem_mem hx)
    have hN := hB.1
    have hB2 := hB
    rw [← hN] at hB2
    have hin := PR_list hB2 (metV_lt hB2 (by omega) (by omega)) hp
    rw [hv]
    refine List.mem_map.2 ⟨_, hin, ?_⟩
    simp only [prow]
    rw [Int.toNat_of_nonneg x0, Int.toNat_of_nonneg y0]
theorem tot_memZ : ∀ {L : List (List Int)} {r : List Int}, r ∈ L → r.length ≤ tot L
  | x :: xs, r, h => by
    have e : tot (x :: xs) = x.length + tot xs := by simp [tot]
    rcases List.mem_cons.1 h with rfl | h
    · omega
    · have := tot_memZ h; omega

end Go.Proofs.YtkgnejhflnekaaaGreat
