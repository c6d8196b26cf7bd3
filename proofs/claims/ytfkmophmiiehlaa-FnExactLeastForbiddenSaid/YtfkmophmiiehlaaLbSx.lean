/- Contracts and lemmas for the statements of this seat, written for this claim; each theorem states its own conditions. -/
import Derived.Test.YtfkmophmiiehlaaLbSw
set_option linter.unusedVariables false
set_option linter.unusedSimpArgs false
namespace Go.Proofs.Ytfkmophmiiehlaa
open Go.RowKit
def tsCols (c : Int) (ts : List T4) (h : Int) (fine : Bool) : List Col := if tsCode c ts h fine = 0 then lev c ts h.toNat else []
set_option maxRecDepth 100000 in
set_option maxHeartbeats 1000000 in
theorem l10Code_c (c : Int) (ts : List T4) (A : Option Addr) (cx : Nat) (h : Int) (good : Bool) (w : World) (hT : TileCells w A ts) (hl : ts.length ≤ 1000000000) :
    Calls Try.prog 46 #[.agg #[.int .i64 c, .slice A ts.length cx], .int .i64 h, .bool good] w fun e w' => ∃ v, e = .returned (.tuple #[v, .int .i64 (tsCode c ts h good)]) ∧ OwnII w' w.heap.size v (crows (tsCols c ts h good)) ∧ Below w.heap.size w w' := by
  have H1 := Lib.hid (fun w h => l01Is_c c ts A cx w h hl)
  have HT := Lib.hid hT
  have HR := Lib.hid (fun w => l01In_c h 1 3 w)
  have HS := Lib.hid (fun (hs : isSetB c ts = true) (n : Nat) (h3 : n ≤ 4) w => l06Size_c c ts.length cx n A w (isSetB_parts hs).2.1.1 (isSetB_parts hs).2.1.2 h3)
  have HN := Lib.hid (fun (wq : World) (hwq : Below w.heap.size w wq) (n : Nat) hs hi h3 => l10Columns_c c ts A cx n wq hs (hT.below hwq) hi h3)
  have hts : tsCode c ts h good = if isSetB c ts = true then (if (inR 1 3 h && good) = true then (if 700 < powC c h.toNat then 3 else 0) else 2) else 1 := rfl
  have hin : inR 1 3 h = true → 1 ≤ h ∧ h ≤ 3 := inR_iff.1
  have hco : tsCols c ts h good = if tsCode c ts h good = 0 then lev c ts h.toNat else [] := rfl
  clear hT
  generalize inR 1 3 h = r at *
  generalize isSetB c ts = s at *
  cases s
  · rw [if_neg (by simp)] at hts
    rw [hts] at hco ⊢
    rw [if_neg (by decide)] at hco
    rw [hco]
    clear hts hin hco
    go_enter Try.func46, Try.ntmps46
    go_wp2_with fail
    refine (H1.out _ (HT.out.below (by (repeat (first | (with_reducible exact Below.refl _ _) | (with_reducible assumption) | (with_reducible refine below_al ?_) | (with_reducible refine below_dr ?_) | (with_reducible refine below_drN ?_) | (with_reducible refine below_set ?_ (by first | exact Nat.le_refl _ | (dsimp only; omega) | omega)) | (with_reducible refine below_tr (by with_reducible assumption) ?_)))))).mono ?_
    rintro e w1 ⟨rfl, hb1⟩
    have Hw1 : Hid (Below w.heap.size w w1) := by (show Below _ _ _); (repeat (first | (with_reducible exact Below.refl _ _) | (with_reducible assumption) | (with_reducible refine below_al ?_) | (with_reducible refine below_dr ?_) | (with_reducible refine below_drN ?_) | (with_reducible refine below_set ?_ (by first | exact Nat.le_refl _ | (dsimp only; omega) | omega)) | (with_reducible refine below_tr (by with_reducible assumption) ?_)))
    have d0 : w1.cell? ⟨w.heap.size, 0, none⟩ = some (.int .i64 c) := by rw [(bcell hb1).1 _ _ (by simp)]; simp
    have d1 : w1.cell? ⟨w.heap.size, 1, none⟩ = some (.slice A ts.length cx) := by rw [(bcell hb1).1 _ _ (by simp)]; simp
    have hN : w.heap.size < w1.heap.size := by have := hb1.size; simp at this; omega
    clear hb1
    go_wp2
    go_ret2
    exact ⟨.slice none 0 0, rfl, OwnII.nil _ _, Hw1.out⟩
  · rw [if_pos rfl] at hts
    have hbad : (r && good) = false → tsCode c ts h good = 2 ∧ tsCols c ts h good = [] := fun e => by
      rw [if_neg (by simp [e])] at hts
      exact ⟨hts, by rw [hco, hts]; rfl⟩
    cases r
    · obtain ⟨e1, e2⟩ := hbad rfl
      rw [e1, e2]
      clear hts hin hco hbad e1 e2
      go_enter Try.func46, Try.ntmps46
      go_wp2_with fail
      refine (H1.out _ (HT.out.below (by (repeat (first | (with_reducible exact Below.refl _ _) | (with_reducible assumption) | (with_reducible refine below_al ?_) | (with_reducible refine below_dr ?_) | (with_reducible refine below_drN ?_) | (with_reducible refine below_set ?_ (by first | exact Nat.le_refl _ | (dsimp only; omega) | omega)) | (with_reducible refine below_tr (by with_reducible assumption) ?_)))))).mono ?_
      rintro e w1 ⟨rfl, hb1⟩
      have Hw1 : Hid (Below w.heap.size w w1) := by (show Below _ _ _); (repeat (first | (with_reducible exact Below.refl _ _) | (with_reducible assumption) | (with_reducible refine below_al ?_) | (with_reducible refine below_dr ?_) | (with_reducible refine below_drN ?_) | (with_reducible refine below_set ?_ (by first | exact Nat.le_refl _ | (dsimp only; omega) | omega)) | (with_reducible refine below_tr (by with_reducible assumption) ?_)))
      have d0 : w1.cell? ⟨w.heap.size, 0, none⟩ = some (.int .i64 c) := by rw [(bcell hb1).1 _ _ (by simp)]; simp
      have d1 : w1.cell? ⟨w.heap.size, 1, none⟩ = some (.slice A ts.length cx) := by rw [(bcell hb1).1 _ _ (by simp)]; simp
      have hN : w.heap.size < w1.heap.size := by have := hb1.size; simp at this; omega
      clear hb1
      go_wp2_with fail
      refine (HR.out _).mono ?_
      rintro e wx ⟨rfl, rfl⟩
      go_wp2
      go_ret2
      exact ⟨.slice none 0 0, rfl, OwnII.nil _ _, Hw1.out⟩
    · cases good
      · obtain ⟨e1, e2⟩ := hbad rfl
        rw [e1, e2]
        clear hts hin hco hbad e1 e2
        go_enter Try.func46, Try.ntmps46
        go_wp2_with fail
        refine (H1.out _ (HT.out.below (by (repeat (first | (with_reducible exact Below.refl _ _) | (with_reducible assumption) | (with_reducible refine below_al ?_) | (with_reducible refine below_dr ?_) | (with_reducible refine below_drN ?_) | (with_reducible refine below_set ?_ (by first | exact Nat.le_refl _ | (dsimp only; omega) | omega)) | (with_reducible refine below_tr (by with_reducible assumption) ?_)))))).mono ?_
        rintro e w1 ⟨rfl, hb1⟩
        have Hw1 : Hid (Below w.heap.size w w1) := by (show Below _ _ _); (repeat (first | (with_reducible exact Below.refl _ _) | (with_reducible assumption) | (with_reducible refine below_al ?_) | (with_reducible refine below_dr ?_) | (with_reducible refine below_drN ?_) | (with_reducible refine below_set ?_ (by first | exact Nat.le_refl _ | (dsimp only; omega) | omega)) | (with_reducible refine below_tr (by with_reducible assumption) ?_)))
        have d0 : w1.cell? ⟨w.heap.size, 0, none⟩ = some (.int .i64 c) := by rw [(bcell hb1).1 _ _ (by simp)]; simp
        have d1 : w1.cell? ⟨w.heap.size, 1, none⟩ = some (.slice A ts.length cx) := by rw [(bcell hb1).1 _ _ (by simp)]; simp
        have hN : w.heap.size < w1.heap.size := by have := hb1.size; simp at this; omega
        clear hb1
        go_wp2_with fail
        refine (HR.out _).mono ?_
        rintro e wx ⟨rfl, rfl⟩
        go_wp2
        go_ret2
        exact ⟨.slice none 0 0, rfl, OwnII.nil _ _, Hw1.out⟩
      · obtain ⟨i1, i2⟩ := hin rfl
        obtain ⟨n, rfl⟩ := Int.eq_ofNat_of_zero_le (by omega : 0 ≤ h)
        rw [Int.toNat_natCast] at hts hco
        rw [if_pos (by simp)] at hts
        clear hin hbad
        by_cases hp : 700 < powC c n
        · rw [if_pos hp] at hts
          rw [hts] at hco ⊢
          rw [if_neg (by decide)] at hco
          rw [hco]
          clear hts hco
          go_enter Try.func46, Try.ntmps46
          go_wp2_with fail
          refine (H1.out _ (HT.out.below (by (repeat (first | (with_reducible exact Below.refl _ _) | (with_reducible assumption) | (with_reducible refine below_al ?_) | (with_reducible refine below_dr ?_) | (with_reducible refine below_drN ?_) | (with_reducible refine below_set ?_ (by first | exact Nat.le_refl _ | (dsimp only; omega) | omega)) | (with_reducible refine below_tr (by with_reducible assumption) ?_)))))).mono ?_
          rintro e w1 ⟨rfl, hb1⟩
          have Hw1 : Hid (Below w.heap.size w w1) := by (show Below _ _ _); (repeat (first | (with_reducible exact Below.refl _ _) | (with_reducible assumption) | (with_reducible refine below_al ?_) | (with_reducible refine below_dr ?_) | (with_reducible refine below_drN ?_) | (with_reducible refine below_set ?_ (by first | exact Nat.le_refl _ | (dsimp only; omega) | omega)) | (with_reducible refine below_tr (by with_reducible assumption) ?_)))
          have d0 : w1.cell? ⟨w.heap.size, 0, none⟩ = some (.int .i64 c) := by rw [(bcell hb1).1 _ _ (by simp)]; simp
          have d1 : w1.cell? ⟨w.heap.size, 1, none⟩ = some (.slice A ts.length cx) := by rw [(bcell hb1).1 _ _ (by simp)]; simp
          have hN : w.heap.size < w1.heap.size := by have := hb1.size; simp at this; omega
          clear hb1
          go_wp2_with fail
          refine (HR.out _).mono ?_
          rintro e wx ⟨rfl, rfl⟩
          go_wp2_with fail
          refine (HS.out (by simp) n (by omega) _).mono ?_
          rintro e w2 ⟨rfl, hb2⟩
          replace Hw1 := Lib.hid (Hw1.out.trans (hb2.mono Hw1.out.size))
          clear hb2
          go_wp2
          go_ret2
          exact ⟨.slice none 0 0, rfl, OwnII.nil _ _, Hw1.out⟩
        · rw [if_neg hp] at hts
          rw [hts] at hco ⊢
          rw [if_pos rfl] at hco
          rw [hco]
          clear hts hco
          go_enter Try.func46, Try.ntmps46
          go_wp2_with fail
          refine (H1.out _ (HT.out.below (by (repeat (first | (with_reducible exact Below.refl _ _) | (with_reducible assumption) | (with_reducible refine below_al ?_) | (with_reducible refine below_dr ?_) | (with_reducible refine below_drN ?_) | (with_reducible refine below_set ?_ (by first | exact Nat.le_refl _ | (dsimp only; omega) | omega)) | (with_reducible refine below_tr (by with_reducible assumption) ?_)))))).mono ?_
          rintro e w1 ⟨rfl, hb1⟩
          have Hw1 : Hid (Below w.heap.size w w1) := by (show Below _ _ _); (repeat (first | (with_reducible exact Below.refl _ _) | (with_reducible assumption) | (with_reducible refine below_al ?_) | (with_reducible refine below_dr ?_) | (with_reducible refine below_drN ?_) | (with_reducible refine below_set ?_ (by first | exact Nat.le_refl _ | (dsimp only; omega) | omega)) | (with_reducible refine below_tr (by with_reducible assumption) ?_)))
          have d0 : w1.cell? ⟨w.heap.size, 0, none⟩ = some (.int .i64 c) := by rw [(bcell hb1).1 _ _ (by simp)]; simp
          have d1 : w1.cell? ⟨w.heap.size, 1, none⟩ = some (.slice A ts.length cx) := by rw [(bcell hb1).1 _ _ (by simp)]; simp
          have hN : w.heap.size < w1.heap.size := by have := hb1.size; simp at this; omega
          clear hb1
          go_wp2_with fail
          refine (HR.out _).mono ?_
          rintro e wx ⟨rfl, rfl⟩
          go_wp2_with fail
          refine (HS.out (by simp) n (by omega) _).mono ?_
          rintro e w2 ⟨rfl, hb2⟩
          replace Hw1 := Lib.hid (Hw1.out.trans (hb2.mono Hw1.out.size))
          have d0' := keepC d0 _ hb2
          have d1' := keepC d1 _ hb2
          have hN2 : w.heap.size < w2.heap.size := Nat.lt_of_lt_of_le hN hb2.size
          clear hb2 d0 d1 hN
          go_wp2_with fail
          refine (HN.out _ Hw1.out n (by simp) (by omega) (by omega)).mono ?_
          rintro e w3 ⟨v, rfl, hO, hb3⟩
          have HO := Lib.hid (hO.weaken Hw1.out.size)
          have Hw3 := Lib.hid (Hw1.out.trans (hb3.mono Hw1.out.size))
          clear hO hb3
          go_wp2
          go_ret2
          exact ⟨_, rfl, HO.out, Hw3.out⟩
/-- one step of a way under a colour: which words are reached -/
def tstep (colour : Option Int) (now nx : List Bool) (k : Col) : List Bool := if colour.all (· == k.n) && now.getD k.w.toNat false then nx.set k.e.toNat true else nx
def tgo (S : Nat) (cols : List Col) (colour : Option Int) (now : List Bool) : List Bool := cols.foldl (tstep colour now) (List.replicate S false)
def trun (S : Nat) (cols : List Col) (now : List Bool) (word : List Int) : List Bool := word.foldl (fun now x => tgo S cols (some x) now) now
def Codes (S : Nat) (cols : List Col) : Prop := ∀ k ∈ cols, (0 ≤ k.w ∧ k.w < S) ∧ (0 ≤ k.e ∧ k.e < S)
theorem tstep_len (o : Option Int) (now nx : List Bool) (k : Col) : (tstep o now nx k).length = nx.length := by unfold tstep; split <;> simp
theorem tfold_len (o : Option Int) (now : List Bool) : ∀ (cols : List Col) (nx : List Bool), (cols.foldl (tstep o now) nx).length = nx.length
  | [], nx => rfl
  | k :: cols, nx => by rw [List.foldl_cons, tfold_len o now cols, tstep_len]
theorem tgo_len (S : Nat) (cols : List Col) (o : Option Int) (now : List Bool) : (tgo S cols o now).length = S := by unfold tgo; rw [tfold_len]; simp
theorem tgo_take (S : Nat) (cols : List Col) (o : Option Int) (now : List Bool) (j : Nat) (hj : j < cols.length) : tgo S (cols.take (j + 1)) o now = tstep o now (tgo S (cols.take j) o now) cols[j] := by
  unfold tgo; rw [List.take_succ_eq_append_getElem hj, List.foldl_append]; rfl
theorem trun_take (S : Nat) (cols : List Col) (now : List Bool) (word : List Int) (j : Nat) (hj : j < word.length) : trun S cols now (word.take (j + 1)) = tgo S cols (some word[j]) (trun S cols now (word.take j)) := by
  unfold trun; rw [List.take_succ_eq_append_getElem hj, List.foldl_append]; rfl
theorem trun_len (S : Nat) (cols : List Col) (now : List Bool) (word : List Int) (h : now.length = S) : (trun S cols now word).length = S := by
  unfold trun
  induction word generalizing now with
  | nil => exact h
  | cons x l ih => rw [List.foldl_cons]; exact ih _ (tgo_len ..)
/-- nothing is reached from nothing -/
theorem tfold_none (o : Option Int) (now : List Bool) (h : now.contains true = false) : ∀ (cols : List Col) (nx : List Bool), cols.foldl (tstep o now) nx = nx
  | [], nx => rfl
  | k :: cols, nx => by
    have hz : now.getD k.w.toNat false = false := by
      cases hg : now.getD k.w.toNat false with
      | false => rfl
      | true =>
        have : true ∈ now := by
          by_cases hlt : k.w.toNat < now.length
          · simp [hlt] at hg; rw [← hg]; exact List.getElem_mem _
          · simp [Nat.le_of_not_lt hlt] at hg
        rw [← List.contains_iff_mem] at this
        rw [h] at this; exact absurd this (by decide)
    rw [List.foldl_cons, show tstep o now nx k = nx by unfold tstep; rw [hz]; simp]
    exact tfold_none o now h cols nx
theorem tgo_none (S : Nat) (cols : List Col) (o : Option Int) (now : List Bool) (h : now.contains true = false) : (tgo S cols o now).contains true = false := by
  unfold tgo
  rw [tfold_none o now h]
  simp [List.contains_iff_mem]
theorem trun_none (S : Nat) (cols : List Col) : ∀ (word : List Int) (now : List Bool), now.contains true = false → (trun S cols now word).contains true = false
  | [], now, h => h
  | x :: l, now, h => trun_none S cols l _ (tgo_none S cols _ now h)
/-- whether some column is gone over -/
def tsome (cols : List Col) (o : Option Int) (now : List Bool) : Bool := cols.any fun k => o.all (· == k.n) && now.getD k.w.toNat false
theorem tfold_some (o : Option Int) (now : List Bool) {S : Nat} : ∀ (cols : List Col) (nx : List Bool), Codes S cols → nx.length = S → (cols.foldl (tstep o now) nx).contains true = (nx.contains true || tsome cols o now)
  | [], nx, _, _ => by simp [tsome]
  | k :: cols, nx, hc, hl => by
    have hk := hc k (List.mem_cons_self ..)
    rw [List.foldl_cons, tfold_some o now cols _ (fun x hx => hc x (List.mem_cons_of_mem _ hx)) (by rw [tstep_len]; exact hl)]
    unfold tstep tsome
    rw [List.any_cons]
    by_cases h : (o.all (· == k.n) && now.getD k.w.toNat false) = true
    · rw [if_pos h, h]
      have : (nx.set k.e.toNat true).contains true = true := by
        rw [List.contains_iff_mem]
        exact List.mem_iff_getElem.2 ⟨k.e.toNat, by rw [List.length_set]; omega, by simp⟩
      rw [this]
      simp
    · rw [if_neg h]
      simp only [Bool.not_eq_true] at h
      rw [h]
      simp
theorem tgo_some {S : Nat} {cols : List Col} (hc : Codes S cols) (o : Option Int) (now : List Bool) : (tgo S cols o now).contains true = tsome cols o now := by
  unfold tgo
  rw [tfold_some o now cols _ hc (by simp)]
  simp [List.contains_iff_mem]
def traceB (S : Nat) (cols : List Col) (word : List Int) : Bool := (trun S cols (List.replicate S true) word).contains true
theorem traceB_stop {S : Nat} {cols : List Col} {word : List Int} (hc : Codes S cols) (j : Nat) (hj : j < word.length) (h : tsome cols (some word[j]) (trun S cols (List.replicate S true) (word.take j)) = false) : traceB S cols word = false := by
  unfold traceB
  have h1 : (trun S cols (List.replicate S true) (word.take (j + 1))).contains true = false := by
    rw [trun_take _ _ _ _ _ hj, tgo_some hc]; exact h
  have h2 : trun S cols (List.replicate S true) word = trun S cols (trun S cols (List.replicate S true) (word.take (j + 1))) (word.drop (j + 1)) := by
    unfold trun; rw [← List.foldl_append, List.take_append_drop]
  rw [h2]
  exact trun_none S cols _ _ h1
theorem lev_Codes {c : Int} {ts : List T4} (hs : isSetB c ts = true) (n : Nat) : Codes (powC c n).toNat (lev c ts n) := by
  obtain ⟨_, ⟨c1, c6⟩, _⟩ := isSetB_parts hs
  intro k hk
  obtain ⟨⟨a1, a2⟩, ⟨a3, a4⟩, _⟩ := lev_codes c1 (isSetB_inC hs) n k hk
  have : powC c n = c ^ n := rfl
  omega

end Go.Proofs.Ytfkmophmiiehlaa
