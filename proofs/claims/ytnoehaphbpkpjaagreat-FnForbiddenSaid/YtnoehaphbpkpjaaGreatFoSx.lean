/- Contracts and lemmas for the statements of this seat, written for this claim; each theorem states its own conditions. -/
import Derived.Laws.BitsLemmas
import Derived.Laws.IdiomCopy
import Derived.Test.YtnoehaphbpkpjaaGreatFoSw
set_option linter.unusedVariables false
set_option linter.unusedSimpArgs false
namespace Go.Proofs.YtnoehaphbpkpjaaGreat
open Go.RowKit
def tsCols (c : Int) (ts : List T4) (h : Int) (fine : Bool) : List Col := if tsCode c ts h fine = 0 then lev c ts h.toNat else []
set_option maxRecDepth 100000 in
set_option maxHeartbeats 1000000 in
theorem l10Code_c (c : Int) (ts : List T4) (A : Option Addr) (cx : Nat) (h : Int) (good : Bool) (w : World) (hT : TileCells w A ts) (hl : ts.length ≤ 1000000000) :
    Calls Tryz.prog 71 #[.agg #[.int .i64 c, .slice A ts.length cx], .int .i64 h, .bool good] w fun e w' => ∃ v, e = .returned (.tuple #[v, .int .i64 (tsCode c ts h good)]) ∧ OwnII w' w.heap.size v (crows (tsCols c ts h good)) ∧ Below w.heap.size w w' := by
  have H1 := Lib.hid (fun w h => l01Is_c c ts A cx w h hl)
  have HT := Lib.hid hT
  have HR := Lib.hid (fun w => l01In_c h 1 3 w)
  have HS := Lib.hid (fun (hs : isSetB c ts = true) (n : Nat) (h3 : n ≤ 4) w => l06Size_c c ts.length cx n A w (isSetB_parts hs).2.1.1 (isSetB_parts hs).2.1.2 h3)
  have HN := Lib.hid (fun (wq : World) (hwq : Below w.heap.size w wq) (n : Nat) hs hi h3 => l10Columns_c c ts A cx n wq hs (hT.below hwq) hi h3)
  have hts : tsCode c ts h good = if isSetB c ts = true then (if (inR 1 3 h && good) = true then (if 700 < powC c h.toNat then 3 else 0) else 2) else 1 := rfl
  have hin : inR 1 3 h = true → 1 ≤ h ∧ h ≤ 3 := inR_iff.1
  have hco : tsCols c ts h good = if tsCode c ts h good = 0 then lev c ts h.toNat else [] := rfl
  clear hT
  generalize inR 1 3 h = r at *
  generalize isSetB c ts = s at *
  cases s
  · rw [if_neg (by simp)] at hts
    rw [hts] at hco ⊢
    rw [if_neg (by decide)] at hco
    rw [hco]
    clear hts hin hco
    go_enter Tryz.func71, Tryz.ntmps71
    go_wp2_with fail
    refine (H1.out _ (HT.out.below (by (repeat (first | (with_reducible exact Below.refl _ _) | (with_reducible assumption) | (with_reducible refine below_al ?_) | (with_reducible refine below_dr ?_) | (with_reducible refine below_drN ?_) | (with_reducible refine below_set ?_ (by first | exact Nat.le_refl _ | (dsimp only; omega) | omega)) | (with_reducible refine below_tr (by with_reducible assumption) ?_)))))).mono ?_
    rintro e w1 ⟨rfl, hb1⟩
    have Hw1 : Hid (Below w.heap.size w w1) := by (show Below _ _ _); (repeat (first | (with_reducible exact Below.refl _ _) | (with_reducible assumption) | (with_reducible refine below_al ?_) | (with_reducible refine below_dr ?_) | (with_reducible refine below_drN ?_) | (with_reducible refine below_set ?_ (by first | exact Nat.le_refl _ | (dsimp only; omega) | omega)) | (with_reducible refine below_tr (by with_reducible assumption) ?_)))
    have d0 : w1.cell? ⟨w.heap.size, 0, none⟩ = some (.int .i64 c) := by rw [(bcell hb1).1 _ _ (by simp)]; simp
    have d1 : w1.cell? ⟨w.heap.size, 1, none⟩ = some (.slice A ts.length cx) := by rw [(bcell hb1).1 _ _ (by simp)]; simp
    have hN : w.heap.size < w1.heap.size := by have := hb1.size; simp at this; omega
    clear hb1
    go_wp2
    go_ret2
    exact ⟨.slice none 0 0, rfl, OwnII.nil _ _, Hw1.out⟩
  · rw [if_pos rfl] at hts
    have hbad : (r && good) = false → tsCode c ts h good = 2 ∧ tsCols c ts h good = [] := fun e => by
      rw [if_neg (by simp [e])] at hts
      exact ⟨hts, by rw [hco, hts]; rfl⟩
    cases r
    · obtain ⟨e1, e2⟩ := hbad rfl
      rw [e1, e2]
      clear hts hin hco hbad e1 e2
      go_enter Tryz.func71, Tryz.ntmps71
      go_wp2_with fail
      refine (H1.out _ (HT.out.below (by (repeat (first | (with_reducible exact Below.refl _ _) | (with_reducible assumption) | (with_reducible refine below_al ?_) | (with_reducible refine below_dr ?_) | (with_reducible refine below_drN ?_) | (with_reducible refine below_set ?_ (by first | exact Nat.le_refl _ | (dsimp only; omega) | omega)) | (with_reducible refine below_tr (by with_reducible assumption) ?_)))))).mono ?_
      rintro e w1 ⟨rfl, hb1⟩
      have Hw1 : Hid (Below w.heap.size w w1) := by (show Below _ _ _); (repeat (first | (with_reducible exact Below.refl _ _) | (with_reducible assumption) | (with_reducible refine below_al ?_) | (with_reducible refine below_dr ?_) | (with_reducible refine below_drN ?_) | (with_reducible refine below_set ?_ (by first | exact Nat.le_refl _ | (dsimp only; omega) | omega)) | (with_reducible refine below_tr (by with_reducible assumption) ?_)))
      have d0 : w1.cell? ⟨w.heap.size, 0, none⟩ = some (.int .i64 c) := by rw [(bcell hb1).1 _ _ (by simp)]; simp
      have d1 : w1.cell? ⟨w.heap.size, 1, none⟩ = some (.slice A ts.length cx) := by rw [(bcell hb1).1 _ _ (by simp)]; simp
      have hN : w.heap.size < w1.heap.size := by have := hb1.size; simp at this; omega
      clear hb1
      go_wp2_with fail
      refine (HR.out _).mono ?_
      rintro e wx ⟨rfl, rfl⟩
      go_wp2
      go_ret2
      exact ⟨.slice none 0 0, rfl, OwnII.nil _ _, Hw1.out⟩
    · cases good
      · obtain ⟨e1, e2⟩ := hbad rfl
        rw [e1, e2]
        clear hts hin hco hbad e1 e2
        go_enter Tryz.func71, Tryz.ntmps71
        go_wp2_with fail
        refine (H1.out _ (HT.out.below (by (repeat (first | (with_reducible exact Below.refl _ _) | (with_reducible assumption) | (with_reducible refine below_al ?_) | (with_reducible refine below_dr ?_) | (with_reducible refine below_drN ?_) | (with_reducible refine below_set ?_ (by first | exact Nat.le_refl _ | (dsimp only; omega) | omega)) | (with_reducible refine below_tr (by with_reducible assumption) ?_)))))).mono ?_
        rintro e w1 ⟨rfl, hb1⟩
        have Hw1 : Hid (Below w.heap.size w w1) := by (show Below _ _ _); (repeat (first | (with_reducible exact Below.refl _ _) | (with_reducible assumption) | (with_reducible refine below_al ?_) | (with_reducible refine below_dr ?_) | (with_reducible refine below_drN ?_) | (with_reducible refine below_set ?_ (by first | exact Nat.le_refl _ | (dsimp only; omega) | omega)) | (with_reducible refine below_tr (by with_reducible assumption) ?_)))
        have d0 : w1.cell? ⟨w.heap.size, 0, none⟩ = some (.int .i64 c) := by rw [(bcell hb1).1 _ _ (by simp)]; simp
        have d1 : w1.cell? ⟨w.heap.size, 1, none⟩ = some (.slice A ts.length cx) := by rw [(bcell hb1).1 _ _ (by simp)]; simp
        have hN : w.heap.size < w1.heap.size := by have := hb1.size; simp at this; omega
        clear hb1
        go_wp2_with fail
        refine (HR.out _).mono ?_
        rintro e wx ⟨rfl, rfl⟩
        go_wp2
        go_ret2
        exact ⟨.slice none 0 0, rfl, OwnII.nil _ _, Hw1.out⟩
      · obtain ⟨i1, i2⟩ := hin rfl
        obtain ⟨n, rfl⟩ := Int.eq_ofNat_of_zero_le (by omega : 0 ≤ h)
        rw [Int.toNat_natCast] at hts hco
        rw [if_pos (by simp)] at hts
        clear hin hbad
        by_cases hp : 700 < powC c n
        · rw [if_pos hp] at hts
          rw [hts] at hco ⊢
          rw [if_neg (by decide)] at hco
          rw [hco]
          clear hts hco
          go_enter Tryz.func71, Tryz.ntmps71
          go_wp2_with fail
          refine (H1.out _ (HT.out.below (by (repeat (first | (with_reducible exact Below.refl _ _) | (with_reducible assumption) | (with_reducible refine below_al ?_) | (with_reducible refine below_dr ?_) | (with_reducible refine below_drN ?_) | (with_reducible refine below_set ?_ (by first | exact Nat.le_refl _ | (dsimp only; omega) | omega)) | (with_reducible refine below_tr (by with_reducible assumption) ?_)))))).mono ?_
          rintro e w1 ⟨rfl, hb1⟩
          have Hw1 : Hid (Below w.heap.size w w1) := by (show Below _ _ _); (repeat (first | (with_reducible exact Below.refl _ _) | (with_reducible assumption) | (with_reducible refine below_al ?_) | (with_reducible refine below_dr ?_) | (with_reducible refine below_drN ?_) | (with_reducible refine below_set ?_ (by first | exact Nat.le_refl _ | (dsimp only; omega) | omega)) | (with_reducible refine below_tr (by with_reducible assumption) ?_)))
          have d0 : w1.cell? ⟨w.heap.size, 0, none⟩ = some (.int .i64 c) := by rw [(bcell hb1).1 _ _ (by simp)]; simp
          have d1 : w1.cell? ⟨w.heap.size, 1, none⟩ = some (.slice A ts.length cx) := by rw [(bcell hb1).1 _ _ (by simp)]; simp
          have hN : w.heap.size < w1.heap.size := by have := hb1.size; simp at this; omega
          clear hb1
          go_wp2_with fail
          refine (HR.out _).mono ?_
          rintro e wx ⟨rfl, rfl⟩
          go_wp2_with fail
          refine (HS.out (by simp) n (by omega) _).mono ?_
          rintro e w2 ⟨rfl, hb2⟩
          replace Hw1 := Lib.hid (Hw1.out.trans (hb2.mono Hw1.out.size))
          clear hb2
          go_wp2
          go_ret2
          exact ⟨.slice none 0 0, rfl, OwnII.nil _ _, Hw1.out⟩
        · rw [if_neg hp] at hts
          rw [hts] at hco ⊢
          rw [if_pos rfl] at hco
          rw [hco]
          clear hts hco
          go_enter Tryz.func71, Tryz.ntmps71
          go_wp2_with fail
          refine (H1.out _ (HT.out.below (by (repeat (first | (with_reducible exact Below.refl _ _) | (with_reducible assumption) | (with_reducible refine below_al ?_) | (with_reducible refine below_dr ?_) | (with_reducible refine below_drN ?_) | (with_reducible refine below_set ?_ (by first | exact Nat.le_refl _ | (dsimp only; omega) | omega)) | (with_reducible refine below_tr (by with_reducible assumption) ?_)))))).mono ?_
          rintro e w1 ⟨rfl, hb1⟩
          have Hw1 : Hid (Below w.heap.size w w1) := by (show Below _ _ _); (repeat (first | (with_reducible exact Below.refl _ _) | (with_reducible assumption) | (with_reducible refine below_al ?_) | (with_reducible refine below_dr ?_) | (with_reducible refine below_drN ?_) | (with_reducible refine below_set ?_ (by first | exact Nat.le_refl _ | (dsimp only; omega) | omega)) | (with_reducible refine below_tr (by with_reducible assumption) ?_)))
          have d0 : w1.cell? ⟨w.heap.size, 0, none⟩ = some (.int .i64 c) := by rw [(bcell hb1).1 _ _ (by simp)]; simp
          have d1 : w1.cell? ⟨w.heap.size, 1, none⟩ = some (.slice A ts.length cx) := by rw [(bcell hb1).1 _ _ (by simp)]; simp
          have hN : w.heap.size < w1.heap.size := by have := hb1.size; simp at this; omega
          clear hb1
          go_wp2_with fail
          refine (HR.out _).mono ?_
          rintro e wx ⟨rfl, rfl⟩
          go_wp2_with fail
          refine (HS.out (by simp) n (by omega) _).mono ?_
          rintro e w2 ⟨rfl, hb2⟩
          replace Hw1 := Lib.hid (Hw1.out.trans (hb2.mono Hw1.out.size))
          have d0' := keepC d0 _ hb2
          have d1' := keepC d1 _ hb2
          have hN2 : w.heap.size < w2.heap.size := Nat.lt_of_lt_of_le hN hb2.size
          clear hb2 d0 d1 hN
          go_wp2_with fail
          refine (HN.out _ Hw1.out n (by simp) (by omega) (by omega)).mono ?_
          rintro e w3 ⟨v, rfl, hO, hb3⟩
          have HO := Lib.hid (hO.weaken Hw1.out.size)
          have Hw3 := Lib.hid (Hw1.out.trans (hb3.mono Hw1.out.size))
          clear hO hb3
          go_wp2
          go_ret2
          exact ⟨_, rfl, HO.out, Hw3.out⟩
/-- one step of a way under a colour: which words are reached -/
def tstep (colour : Option Int) (now nx : List Bool) (k : Col) : List Bool := if colour.all (· == k.n) && now.getD k.w.toNat false then nx.set k.e.toNat true else nx
def tgo (S : Nat) (cols : List Col) (colour : Option Int) (now : List Bool) : List Bool := cols.foldl (tstep colour now) (List.replicate S false)
def trun (S : Nat) (cols : List Col) (now : List Bool) (word : List Int) : List Bool := word.foldl (fun now x => tgo S cols (some x) now) now
def Codes (S : Nat) (cols : List Col) : Prop := ∀ k ∈ cols, (0 ≤ k.w ∧ k.w < S) ∧ (0 ≤ k.e ∧ k.e < S)
theorem tstep_len (o : Option Int) (now nx : List Bool) (k : Col) : (tstep o now nx k).length = nx.length := by unfold tstep; split <;> simp
theorem tfold_len (o : Option Int) (now : List Bool) : ∀ (cols : List Col) (nx : List Bool), (cols.foldl (tstep o now) nx).length = nx.length
  | [], nx => rfl
  | k :: cols, nx => by rw [List.foldl_cons, tfold_len o now cols, tstep_len]
theorem tgo_len (S : Nat) (cols : List Col) (o : Option Int) (now : List Bool) : (tgo S cols o now).length = S := by unfold tgo; rw [tfold_len]; simp
theorem tgo_take (S : Nat) (cols : List Col) (o : Option Int) (now : List Bool) (j : Nat) (hj : j < cols.length) : tgo S (cols.take (j + 1)) o now = tstep o now (tgo S (cols.take j) o now) cols[j] := by
  unfold tgo; rw [List.take_succ_eq_append_getElem hj, List.foldl_append]; rfl
theorem trun_take (S : Nat) (cols : List Col) (now : List Bool) (word : List Int) (j : Nat) (hj : j < word.length) : trun S cols now (word.take (j + 1)) = tgo S cols (some word[j]) (trun S cols now (word.take j)) := by
  unfold trun; rw [List.take_succ_eq_append_getElem hj, List.foldl_append]; rfl
theorem trun_len (S : Nat) (cols : List Col) (now : List Bool) (word : List Int) (h : now.length = S) : (trun S cols now word).length = S := by
  unfold trun
  induction word generalizing now with
  | nil => exact h
  | cons x l ih => rw [List.foldl_cons]; exact ih _ (tgo_len ..)
/-- nothing is reached from nothing -/
theorem tfold_none (o : Option Int) (now : List Bool) (h : now.contains true = false) : ∀ (cols : List Col) (nx : List Bool), cols.foldl (tstep o now) nx = nx
  | [], nx => rfl
  | k :: cols, nx => by
    have hz : now.getD k.w.toNat false = false := by
      cases hg : now.getD k.w.toNat false with
      | false => rfl
      | true =>
        have : true ∈ now := by
          by_cases hlt : k.w.toNat < now.length
          · simp [hlt] at hg; rw [← hg]; exact List.getElem_mem _
          · simp [Nat.le_of_not_lt hlt] at hg
        rw [← List.contains_iff_mem] at this
        rw [h] at this; exact absurd this (by decide)
    rw [List.foldl_cons, show tstep o now nx k = nx by unfold tstep; rw [hz]; simp]
    exact tfold_none o now h cols nx
theorem tgo_none (S : Nat) (cols : List Col) (o : Option Int) (now : List Bool) (h : now.contains true = false) : (tgo S cols o now).contains true = false := by
  unfold tgo
  rw [tfold_none o now h]
  simp [List.contains_iff_mem]
theorem trun_none (S : Nat) (cols : List Col) : ∀ (word : List Int) (now : List Bool), now.contains true = false → (trun S cols now word).contains true = false
  | [], now, h => h
  | x :: l, now, h => trun_none S cols l _ (tgo_none S cols _ now h)
/-- whether some column is gone over -/
def tsome (cols : List Col) (o : Option Int) (now : List Bool) : Bool := cols.any fun k => o.all (· == k.n) && now.getD k.w.toNat false
theorem tfold_some (o : Option Int) (now : List Bool) {S : Nat} : ∀ (cols : List Col) (nx : List Bool), Codes S cols → nx.length = S → (cols.foldl (tstep o now) nx).contains true = (nx.contains true || tsome cols o now)
  | [], nx, _, _ => by simp [tsome]
  | k :: cols, nx, hc, hl => by
    have hk := hc k (List.mem_cons_self ..)
    rw [List.foldl_cons, tfold_some o now cols _ (fun x hx => hc x (List.mem_cons_of_mem _ hx)) (by rw [tstep_len]; exact hl)]
    unfold tstep tsome
    rw [List.any_cons]
    by_cases h : (o.all (· == k.n) && now.getD k.w.toNat false) = true
    · rw [if_pos h, h]
      have : (nx.set k.e.toNat true).contains true = true := by
        rw [List.contains_iff_mem]
        exact List.mem_iff_getElem.2 ⟨k.e.toNat, by rw [List.length_set]; omega, by simp⟩
      rw [this]
      simp
    · rw [if_neg h]
      simp only [Bool.not_eq_true] at h
      rw [h]
      simp
theorem tgo_some {S : Nat} {cols : List Col} (hc : Codes S cols) (o : Option Int) (now : List Bool) : (tgo S cols o now).contains true = tsome cols o now := by
  unfold tgo
  rw [tfold_some o now cols _ hc (by simp)]
  simp [List.contains_iff_mem]
def traceB (S : Nat) (cols : List Col) (word : List Int) : Bool := (trun S cols (List.replicate S true) word).contains true
theorem traceB_stop {S : Nat} {cols : List Col} {word : List Int} (hc : Codes S cols) (j : Nat) (hj : j < word.length) (h : tsome cols (some word[j]) (trun S cols (List.replicate S true) (word.take j)) = false) : traceB S cols word = false := by
  unfold traceB
  have h1 : (trun S cols (List.replicate S true) (word.take (j + 1))).contains true = false := by
    rw [trun_take _ _ _ _ _ hj, tgo_some hc]; exact h
  have h2 : trun S cols (List.replicate S true) word = trun S cols (trun S cols (List.replicate S true) (word.take (j + 1))) (word.drop (j + 1)) := by
    unfold trun; rw [← List.foldl_append, List.take_append_drop]
  rw [h2]
  exact trun_none S cols _ _ h1
theorem lev_Codes {c : Int} {ts : List T4} (hs : isSetB c ts = true) (n : Nat) : Codes (powC c n).toNat (lev c ts n) := by
  obtain ⟨_, ⟨c1, c6⟩, _⟩ := isSetB_parts hs
  intro k hk
  obtain ⟨⟨a1, a2⟩, ⟨a3, a4⟩, _⟩ := lev_codes c1 (isSetB_inC hs) n k hk
  have : powC c n = c ^ n := rfl
  omega

end Go.Proofs.YtnoehaphbpkpjaaGreat
namespace Go.Proofs.YtnoehaphbpkpjaaGreat
open Go.RowKit
theorem infoB : (Tryz.prog.info? 4).map (fun i => (i.zero, i.size, i.bytes)) = some (some (.bool false), 1, 1) := by kernel_rfl
def bcells (xs : List Bool) : List Value := xs.map fun x => .bool x
theorem bcells_length (xs : List Bool) : (bcells xs).length = xs.length := by simp [bcells]
theorem bcells_set (xs : List Bool) (k : Nat) (x : Bool) : (bcells xs).set k (.bool x) = bcells (xs.set k x) := by simp [bcells, List.map_set]
/-- a slice of truth values that the call made and owns -/
def OwnB (w : World) (B : Nat) (v : Value) (xs : List Bool) : Prop := w.ownsRow B 4 1 v xs.length (bcells xs)
theorem OwnB.below {w w1 : World} {B : Nat} {v : Value} {xs : List Bool} (h : OwnB w B v xs) (hb : Below w.heap.size w w1) : OwnB w1 B v xs :=
  World.ownsRow.kept (row := none) h ⟨hb.os, hb.tape, hb.output, hb.size, fun k hk _ => hb.block k hk⟩ (by cases h : v.ownBlock with | none => exact .inl rfl | some k => exact .inr (by simp))
theorem OwnB.weaken {w : World} {B B' : Nat} {v : Value} {xs : List Bool} (h : OwnB w B v xs) (hB : B' ≤ B) : OwnB w B' v xs := by
  obtain ⟨h1, h2⟩ := h
  refine ⟨h1, ?_⟩
  rcases h2 with h2 | ⟨g, cap, cur, e1, e2, e3⟩
  · exact .inl h2
  · exact .inr ⟨g, cap, cur, e1, Nat.le_trans hB e2, e3⟩
theorem OwnB.shape {w : World} {B : Nat} {v : Value} {xs : List Bool} (h : OwnB w B v xs) : ∃ A cx, v = .slice A xs.length cx := by
  obtain ⟨h1, h2⟩ := h
  rcases h2 with ⟨rfl, h2⟩ | ⟨g, cap, cur, rfl, _⟩
  · exact ⟨none, 0, by rw [h2]⟩
  · exact ⟨_, _, rfl⟩
theorem OwnB.lt {w : World} {B : Nat} {v : Value} {xs : List Bool} (h : OwnB w B v xs) : ∀ k, v.ownBlock = some k → B ≤ k ∧ k < w.heap.size := fun k hk => World.ownsRow.lt h k hk
theorem OwnB.at_ {w : World} {B n cx : Nat} {A : Option Addr} {xs : List Bool} (h : OwnB w B (.slice A n cx) xs) (j : Nat) (hj : j < xs.length) :
    ∃ g, A = some ⟨g, 0, none⟩ ∧ B ≤ g ∧ g < w.heap.size ∧ w.cell? ⟨g, j, none⟩ = some (.bool xs[j]) ∧ w.frozen? ⟨g, j, none⟩ = false := by
  have h0 := h
  obtain ⟨h1, h2⟩ := h
  rcases h2 with ⟨e1, e2⟩ | ⟨g, cap, cur, e1, e2, e3, _⟩
  · omega
  · injection e1 with a1 a2 a3
    subst a1 a2 a3
    have hc := World.ownsRow.cellAt h0 j (by omega)
    refine ⟨g, rfl, e2, (Array.getElem?_eq_some_iff.1 e3).1, ?_, World.ownsRow.frozenAt h0 j⟩
    rw [hc]; simp [bcells, hj]
theorem OwnB.set {w : World} {B n cx g : Nat} {xs : List Bool} (h : OwnB w B (.slice (some ⟨g, 0, none⟩) n cx) xs) (j : Nat) (y : Bool) :
    OwnB (w.setCell ⟨g, j, none⟩ (.bool y)) B (.slice (some ⟨g, 0, none⟩) n cx) (xs.set j y) ∧ w.grownBy (w.setCell ⟨g, j, none⟩ (.bool y)) (some g) := by
  have h0 := h
  obtain ⟨h1, h2⟩ := h
  rcases h2 with ⟨e1, e2⟩ | ⟨g', cap, cur, e1, _⟩
  · cases e1
  · injection e1 with a1 a2 a3
    subst a2
    obtain ⟨s1, s2⟩ := World.ownsRow.stored h0 j (.bool y)
    refine ⟨?_, s2⟩
    unfold OwnB
    rw [bcells_set] at s1
    rw [List.length_set]
    exact s1
theorem OwnB.made (w : World) (B n : Nat) (hB : B ≤ w.heap.size) (hn : n ≤ 1000000000) :
    OwnB (w.alloc (.cells (madeCells #[.bool false] n) 4)) B (.slice (some ⟨w.heap.size, 0, none⟩) n n) (List.replicate n false) := by
  have hs : (madeCells #[Value.bool false] n).size = n * 1 := by simp [madeCells]
  have := World.ownsRow_lit (base := B) (e := 4) (size := 1) w (madeCells #[.bool false] n) n hB (by simp [maxLen]; omega) hs
  rw [toList_madeCells_one] at this
  unfold OwnB
  simpa [bcells] using this
theorem OwnB.grown {w w1 : World} {B : Nat} {v : Value} {xs : List Bool} {row : Option Nat} (h : OwnB w B v xs) (hg : w.grownBy w1 row) (hne : v.ownBlock = none ∨ v.ownBlock ≠ row) : OwnB w1 B v xs := World.ownsRow.kept h hg hne
theorem make_b (n : Nat) (h : n ≤ 1000000000) (w : World) : (Instr.makeSlice 91 (.int .i64 (n : Int)) (.int .i64 (n : Int))).run Tryz.prog w = .ok (.slice (some ⟨w.heap.size, 0, none⟩) n n) (w.alloc (.cells (madeCells #[.bool false] n) 4)) := by
  have := make_k (P := Tryz.prog) 91 4 _ 1 1 Tryz.underlying91 infoB n (by omega) (by omega) w
  rw [Nat.mul_one] at this
  exact this
theorem and1 : bits .and .u64 1 4294967295 = 1 := by decide
theorem and0 : bits .and .u64 0 4294967295 = 0 := by decide
theorem andN {n : Int} (h0 : 0 ≤ n) (h1 : n ≤ 1000000) : bits .and .u64 n 4294967295 = n := by
  have e := bits_mask .u64 40 (by decide) (fun n h0 h1 => by rw [show IntKind.u64.wrap n = n % 18446744073709551616 by simp [IntKind.wrap, IntKind.bits, IntKind.signed]]; omega) 32 (by decide) n h0 (by omega)
  rw [show (4294967295 : Int) = 2 ^ 32 - 1 by decide, e]
  omega
set_option maxRecDepth 100000 in
set_option maxHeartbeats 1000000 in
theorem mul64_c (n : Int) (w : World) (h0 : 0 ≤ n) (h1 : n ≤ 1000000) :
    Calls Tryz.prog 137 #[.int .u64 1, .int .u64 n] w fun e w' => e = .returned (.tuple #[.int .u64 0, .int .u64 n]) ∧ w = w' := by
  have a1 := and1
  have a4 := and0
  have a2 := andN h0 h1
  have a3 : n / 4294967296 = 0 := by omega
  go_enter Tryz.func137, Tryz.ntmps137
  go_wp2
  go_ret2
  exact ⟨rfl, rfl⟩
set_option maxRecDepth 100000 in
set_option maxHeartbeats 1000000 in
theorem bitsMul_c (n : Int) (w : World) (h0 : 0 ≤ n) (h1 : n ≤ 1000000) :
    Calls Tryz.prog 120 #[.int .u64 1, .int .u64 n] w fun e w' => e = .returned (.tuple #[.int .u64 0, .int .u64 n]) ∧ w = w' := by
  go_enter Tryz.func120, Tryz.ntmps120
  go_wp2_with fail
  refine (mul64_c n _ h0 h1).mono ?_
  rintro e w1 ⟨rfl, rfl⟩
  go_wp2
  go_ret2
  exact ⟨rfl, rfl⟩
theorem setCells_blk {b : Nat} {T : TypeId} : ∀ (ds : List Value) (o : Nat) (cs : List Value) (w : World), Blk w b cs T → o + ds.length ≤ cs.length → Blk (w.setCells b o ds) b (cs.take o ++ ds ++ cs.drop (o + ds.length)) T
  | [], o, cs, w, h, _ => by
    show Blk w b _ T
    simpa using h
  | d :: ds, o, cs, w, h, hl => by
    rw [List.length_cons] at hl
    have ih := setCells_blk ds (o + 1) (cs.set o d) (w.setCell ⟨b, o, none⟩ d) (h.set o d) (by rw [List.length_set]; omega)
    have e : (cs.set o d).take (o + 1) ++ ds ++ (cs.set o d).drop (o + 1 + ds.length) = cs.take o ++ (d :: ds) ++ cs.drop (o + (d :: ds).length) := by
      rw [List.take_succ_eq_append_getElem (by rw [List.length_set]; omega), List.getElem_set_self, List.take_set_of_le (Nat.le_refl _), List.drop_set_of_lt (by omega), List.length_cons, show o + 1 + ds.length = o + (ds.length + 1) by omega]
      simp
    rw [e] at ih
    exact ih
theorem setCells_below {b B : Nat} : ∀ (ds : List Value) (o : Nat) (w0 w : World), Below B w0 w → B ≤ b → Below B w0 (w.setCells b o ds)
  | [], _, _, _, h, _ => h
  | d :: ds, o, w0, w, h, hb => setCells_below ds (o + 1) w0 _ (h.setCell hb d) hb
def repB (n k : Nat) : List Bool := List.replicate k true ++ List.replicate (n - k) false
theorem repB_len {n k : Nat} (h : k ≤ n) : (repB n k).length = n := by simp [repB]; omega
theorem repB_put {n k m : Nat} (h : k + m ≤ n) : (bcells (repB n k)).take k ++ bcells (List.replicate m true) ++ (bcells (repB n k)).drop (k + m) = bcells (repB n (k + m)) := by
  unfold bcells repB
  rw [List.map_append, List.take_append_of_le_length (by simp), List.take_of_length_le (by simp), List.drop_append, List.drop_of_length_le (by simp)]
  simp only [List.length_map, List.length_replicate, List.nil_append, List.map_replicate, List.drop_replicate]
  rw [← List.replicate_append_replicate, show n - k - (k + m - k) = n - (k + m) by omega]
  simp only [List.map_append, List.map_replicate]
set_option maxRecDepth 100000 in
set_option maxHeartbeats 1000000 in
theorem copyB (w : World) (ty : TypeId) (b n k m cap : Nat) (a : Addr) (sLen sCap : Nat) (T : TypeId) (hB : Blk w b (bcells (repB n k)) T) (hm : m = min sLen (n - k)) (hk : k ≤ n)
    (hsrc : ∀ j, j < m → w.cell? (a.add j) = some (.bool true)) :
    (Builtin.copy_ #[91, 91] ty #[.slice (some ⟨b, k, none⟩) (n - k) cap, .slice (some a) sLen sCap]).run Tryz.prog w = .ok (goInt m) (w.setCells b k (bcells (List.replicate m true))) := by
  have h := run_copy_cells (P := Tryz.prog) w 91 91 ty 4 b k (n - k) cap a sLen sCap (bcells (List.replicate m true)) Tryz.underlying91 (by rw [show (fun i : TypeInfo => i.size) = (fun i => i.size) from rfl]; kernel_rfl) (by simp [bcells]; exact hm)
    (fun j v hj => by
      by_cases hjm : j < m
      · simp [bcells, hjm] at hj; rw [← hj]; exact hsrc j hjm
      · simp [bcells, hjm] at hj)
    (fun j hj => by
      have hl : (bcells (repB n k)).length = n := by rw [bcells_length, repB_len hk]
      rw [hB.cell (k + j) (by rw [hl]; simp [bcells] at hj; omega)]; rfl)
    (fun j _ => hB.frozen _) (fun v hv => by simp [bcells] at hv; rw [hv.2]; rfl)
  simpa [bcells] using h
theorem copyB_blk {w : World} {b n k m : Nat} {T : TypeId} (hB : Blk w b (bcells (repB n k)) T) (h : k + m ≤ n) : Blk (w.setCells b k (bcells (List.replicate m true))) b (bcells (repB n (k + m))) T := by
  have := setCells_blk (bcells (List.replicate m true)) k _ w hB (by simp [bcells, repB]; omega)
  rw [show (bcells (List.replicate m true)).length = m by simp [bcells], repB_put h] at this
  exact this
theorem repB_all (n : Nat) : repB n n = List.replicate n true := by simp [repB]
theorem Blk.ownB {w : World} {b B : Nat} {xs : List Bool} (h : Blk w b (bcells xs) 4) (hB : B ≤ b) (hl : xs.length ≤ 1000000000) : OwnB w B (.slice (some ⟨b, 0, none⟩) xs.length xs.length) xs := by
  refine ⟨by rw [bcells_length, Nat.mul_one], .inr ⟨b, xs.length, (bcells xs).toArray, rfl, hB, h, Nat.le_refl _, by simp [maxLen]; omega, by simp [bcells_length], ?_⟩⟩
  rw [Nat.mul_one]
  exact List.take_of_length_le (by rw [bcells_length]; exact Nat.le_refl _)
set_option maxRecDepth 100000 in
set_option maxHeartbeats 1000000 in
theorem repeatB_c (n : Nat) (g0 : Nat) (w : World) (h1 : 1 ≤ n) (h2 : n ≤ 1000000) (hc : w.cell? ⟨g0, 0, none⟩ = some (.bool true)) :
    Calls Tryz.prog 103 #[.slice (some ⟨g0, 0, none⟩) 1 1, .int .i64 n] w fun e w' => ∃ v, e = .returned v ∧ OwnB w' w.heap.size v (List.replicate n true) ∧ Below w.heap.size w w' := by
  have hm := fun w => make_b n (by omega) w
  have HMul := Lib.hid (fun w => bitsMul_c n w (by omega) (by omega))
  have hB0 : Blk (w.alloc (.cells (madeCells #[.bool false] n) 4)) w.heap.size (bcells (repB n 0)) 4 := by
    have h := Blk.newA w (madeCells #[.bool false] n) 4
    rw [toList_madeCells_one] at h
    simpa [bcells, repB] using h
  have hcp := copyB (w.alloc (.cells (madeCells #[.bool false] n) 4)) 3 w.heap.size n 0 1 n ⟨g0, 0, none⟩ 1 1 4 hB0 (by omega) (by omega) (fun j hj => by
    obtain rfl : j = 0 := by omega
    simpa [Addr.add] using cell_alloc_old _ _ _ _ _ hc)
  rw [Nat.sub_zero] at hcp
  have HB1 := Lib.hid (copyB_blk (m := 1) hB0 (by omega))
  have HBel := Lib.hid (setCells_below (b := w.heap.size) (bcells (List.replicate 1 true)) 0 w (w.alloc (.cells (madeCells #[.bool false] n) 4)) (below_al (Below.refl _ _)) (Nat.le_refl _))
  clear hB0 hc
  go_enter Tryz.func103, Tryz.ntmps103
  go_wp2_with fail
  refine (HMul.out _).mono ?_
  rintro e w1 ⟨rfl, rfl⟩
  go_wp2_with fail
  go_loopw [8] (fun i wr => ∃ k : Nat, 1 ≤ k ∧ k ≤ n ∧ i = .int .i64 k ∧ Hid (Blk wr w.heap.size (bcells (repB n k)) 4) ∧ Hid (Below w.heap.size w wr)) (fun i _ => n - (intOf i).toNat)
  case atStart => exact ⟨1, by omega, by omega, rfl, HB1, HBel⟩
  case round =>
    obtain ⟨k, hk1, hk, rfl, HB, Hb⟩ := hrel
    by_cases hkn : k < n
    · go_wp2_with fail
      have hcp2 := copyB wr.drew 3 w.heap.size n k (min k (n - k)) (n - k) ⟨w.heap.size, 0, none⟩ k n 4 HB.out.drew (by omega) (by omega) (fun j hj => by
        have hj2 : j < (bcells (repB n k)).length := by rw [bcells_length, repB_len hk]; omega
        have h9 := HB.out.drew.cell j hj2
        rw [add_off, Nat.zero_add, h9]
        have : j < k := by omega
        simp [bcells, repB, List.getElem_append, this])
      obtain ⟨m, hm⟩ : ∃ m, min k (n - k) = m := ⟨_, rfl⟩
      rw [hm] at hcp2
      have hm1 : 1 ≤ m := by omega
      have hm2 : k + m ≤ n := by omega
      have HB2 := Lib.hid (copyB_blk (m := m) HB.out.drew hm2)
      have HBl := Lib.hid (setCells_below (b := w.heap.size) (bcells (List.replicate m true)) k w wr.drew Hb.out.drew (Nat.le_refl _))
      have hnk : ¬ n = k := by omega
      have hwk : IntKind.i64.wrap ((k : Int) + (m : Int)) = ((k + m : Nat) : Int) := by rw [IntWalk.i64_in _ (by omega)]; omega
      clear hm
      refine wp_region_mix [(0, true), (1, true), (2, true), (3, true), (4, true), (5, true), (6, true), (7, false), (8, true), (9, true)] (fun w' => True) (by kernel_rfl) (by kernel_rfl) (fun _ _ d _ _ h => by cases d <;> exact h) (trivial) ?_
      repeat (first
        | (refine mix_skip rfl rfl (fun K' hK' => ?_); go_simp; refine hK' _ ?_; clear hK' K')
        | (refine mix_do (v := ?_) rfl rfl (fun w1 hb => ?_) (fun K' hK' => ?_); rotate_left
           · go_simp
             rfl
           go_simp; refine hK' _ ?_; clear hK' K'))
      refine mix_call rfl rfl (fun K' hK' => ?_)
      go_simp
      refine hK' _ _ (trivial) ?_; clear hK' K'
      repeat (first
        | (refine mix_skip rfl rfl (fun K' hK' => ?_); go_simp; refine hK' _ ?_; clear hK' K')
        | (refine mix_do (v := ?_) rfl rfl (fun w1 hb => ?_) (fun K' hK' => ?_); rotate_left
           · go_simp
             rfl
           go_simp; refine hK' _ ?_; clear hK' K'))
      refine mix_nil ?_
      go_wp2
      go_roundw
      case rel => exact ⟨k + m, by omega, by omega, by go_num, HB2, HBl⟩
      case measure => simp [intOf]; omega
    · obtain rfl : k = n := by omega
      have HO := Lib.hid (Blk.ownB (B := w.heap.size) (xs := repB k k) HB.out (Nat.le_refl _) (by simp [repB]; omega))
      rw [repB_all, List.length_replicate] at HO
      go_wp2
      go_ret
      exact ⟨_, rfl, HO.out, Hb.out⟩
/-- truth values read as a list -/
def BoolC (w : World) (A : Option Addr) (xs : List Bool) : Prop := ∀ j (h : j < xs.length), ∃ b off, A = some ⟨b, off, none⟩ ∧ b < w.heap.size ∧ w.cell? ⟨b, off + j, none⟩ = some (.bool xs[j])
theorem BoolC.below {w w1 : World} {A : Option Addr} {xs : List Bool} (h : BoolC w A xs) (hb : Below w.heap.size w w1) : BoolC w1 A xs := by
  intro j hj
  obtain ⟨b, off, e, hlt, hc⟩ := h j hj
  exact ⟨b, off, e, Nat.lt_of_lt_of_le hlt hb.size, (hb.cell (p := ⟨b, _, none⟩) hlt).trans hc⟩
theorem OwnB.read {w : World} {B n cx : Nat} {A : Option Addr} {xs : List Bool} (h : OwnB w B (.slice A n cx) xs) : BoolC w A xs := by
  intro j hj
  obtain ⟨g, rfl, _, hlt, hc, _⟩ := h.at_ j hj
  exact ⟨g, 0, rfl, hlt, by rw [Nat.zero_add]; exact hc⟩
def IdxOk (i : Int) (xs : List Bool) : Prop := decide (0 ≤ i) = xs.contains true
set_option maxRecDepth 100000 in
set_option maxHeartbeats 1000000 in
theorem indexB_c (xs : List Bool) (A : Option Addr) (cx : Nat) (w : World) (hX : BoolC w A xs) (hl : xs.length ≤ 1000000000) :
    Calls Tryz.prog 132 #[.slice A xs.length cx, .bool true] w fun e w' => (∃ i : Int, e = .returned (.int .i64 i) ∧ IdxOk i xs) ∧ w = w' := by
  have HX := Lib.hid hX
  clear hX
  go_enter Tryz.func132, Tryz.ntmps132
  go_wp2_with fail
  go_loop [8] (fun i => ∃ k : Nat, k ≤ xs.length ∧ i = .int .i64 k ∧ Hid (∀ j (h : j < xs.length), j < k → xs[j] = false)) (fun i => xs.length - (intOf i).toNat)
  case atStart => exact ⟨0, by omega, rfl, fun j _ h => by omega⟩
  case round =>
    obtain ⟨k, hk, rfl, Hn⟩ := hrel
    by_cases h1 : k < xs.length
    · obtain ⟨b, off, rfl, hlt, hc⟩ := HX.out k h1
      cases hx : xs[k]
      · rw [hx] at hc
        have HN := Lib.hid (show ∀ j (h : j < xs.length), j < k + 1 → xs[j] = false from fun j h hj => by
          by_cases e : j = k
          · subst e; exact hx
          · exact Hn.out j h (by omega))
        clear hx
        go_wp2
        go_round
        case rel => exact ⟨k + 1, by omega, by go_num, HN⟩
        case measure => simp [intOf]; omega
      · rw [hx] at hc
        have HN := Lib.hid (show xs.contains true = true by rw [List.contains_iff_mem, ← hx]; exact List.getElem_mem h1)
        clear hx
        go_wp2
        go_ret
        exact ⟨⟨_, rfl, by unfold IdxOk; rw [HN.out]; simp⟩, rfl⟩
    · have HN := Lib.hid (show xs.contains true = false by
        rw [Bool.eq_false_iff]; intro h
        rw [List.contains_iff_mem] at h
        obtain ⟨j, hj, e⟩ := List.getElem_of_mem h
        rw [Hn.out j hj (by omega)] at e; cases e)
      go_wp2
      go_ret
      exact ⟨⟨_, rfl, by unfold IdxOk; rw [HN.out]; rfl⟩, rfl⟩
set_option maxRecDepth 100000 in
set_option maxHeartbeats 1000000 in
theorem containsB_c (xs : List Bool) (A : Option Addr) (cx : Nat) (w : World) (hX : BoolC w A xs) (hl : xs.length ≤ 1000000000) :
    Calls Tryz.prog 112 #[.slice A xs.length cx, .bool true] w fun e w' => e = .returned (.bool (xs.contains true)) ∧ w = w' := by
  have HI := Lib.hid (fun w h => indexB_c xs A cx w h hl)
  have HX := Lib.hid hX
  clear hX
  go_enter Tryz.func112, Tryz.ntmps112
  go_wp2_with fail
  refine (HI.out _ HX.out).mono ?_
  rintro e w1 ⟨⟨i, rfl, hi⟩, rfl⟩
  have Hi := Lib.hid hi
  clear hi
  go_wp2
  go_ret
  exact ⟨ret_bool Hi.out, rfl⟩

end Go.Proofs.YtnoehaphbpkpjaaGreat
