/- Contracts and lemmas for the statements of this seat, written for this claim; each theorem states its own conditions. -/
import Derived.Test.YtpcooplalncdcaaSmTn1
set_option linter.unusedVariables false
set_option linter.unusedSimpArgs false
namespace Go.Proofs.Ytpcooplalncdcaa
open Go.RowKit
set_option maxRecDepth 100000 in
set_option maxHeartbeats 1000000 in
theorem isTraceLength_c (n : Int) (w : World) : Calls Try.prog 73 #[.int .i64 n] w fun e w' => e = .returned (.bool (inR 1 8 n)) ∧ w = w' := by
  have HR := Lib.hid (fun w => within_c n 1 8 w)
  go_enter Try.func73, Try.ntmps73
  go_wp2_with fail
  refine (HR.out _).mono ?_
  rintro e w1 ⟨rfl, rfl⟩
  go_wp2
  go_ret
  exact ⟨rfl, rfl⟩
set_option maxRecDepth 100000 in
set_option maxHeartbeats 1000000 in
theorem traceWords1_c (n : Int) (b : Nat) (w : World) (f0 : w.cell? ⟨b, 0, none⟩ = some (.int .i64 n)) : Calls Try.prog 72 #[.pointer (some ⟨b, 0, none⟩)] w fun e w' => e = .returned (.bool (inR 1 8 n)) ∧ Below w.heap.size w w' := by
  have HR := Lib.hid (fun w => isTraceLength_c n w)
  go_enter Try.func72, Try.ntmps72
  go_wp2_with fail
  refine (HR.out _).mono ?_
  rintro e w1 ⟨rfl, rfl⟩
  go_wp2
  go_ret
  exact ⟨rfl, Below.refl _ _⟩
theorem lev_ColN {c : Int} {ts : List T4} {cn n : Nat} (hc : c = cn) (hs : isSetB c ts = true) (hn : 1 ≤ n) : ColN cn (lev c ts n) := by
  obtain ⟨_, ⟨c1, c6⟩, _⟩ := isSetB_parts hs
  intro k hk
  obtain ⟨_, _, h3⟩ := lev_codes c1 (isSetB_inC hs) n k hk
  have := h3 hn
  omega
set_option maxRecDepth 100000 in
set_option maxHeartbeats 1000000 in
theorem traceWords_c (lim : Nat) (hlim : lim ≤ 1000000) (c : Int) (ts : List T4) (A : Option Addr) (cx : Nat) (h n : Int) (w : World) (hT : TileCells w A ts) (hl : ts.length ≤ 1000000000) :
    Calls Try.prog 47 #[.agg #[.int .i64 c, .slice A ts.length cx], .int .i64 h, .int .i64 n, .int .i64 lim] w fun e w' => ∃ v, e = .returned (.tuple #[v, .int .i64 (ctCode lim c ts h n)]) ∧ OwnII w' w.heap.size v (twVal lim c ts h n) ∧ Below w.heap.size w w' := by
  have HC := Lib.hid (fun (wq : World) (hwq : Below w.heap.size w wq) (b : Nat) h0 => traceStrip_c c ts A cx h 72 #[.pointer (some ⟨b, 0, none⟩)] (inR 1 8 n) wq (fun _ _ => rfl) (hT.below hwq) hl
    (fun hs w1 hb => traceWords1_c n b w1 (keepC h0 _ hb)))
  have hv2 : ctCode lim c ts h n = if tsCode c ts h (inR 1 8 n) = 0 then (if lim < (trL c ts h n).length then 3 else 0) else tsCode c ts h (inR 1 8 n) := rfl
  have hv3 : twVal lim c ts h n = if ctCode lim c ts h n = 0 then trL c ts h n else [] := rfl
  have hz := Lib.hid (tsCode_zero (c := c) (ts := ts) (h := h) (fine := inR 1 8 n))
  clear hT
  generalize hcode : tsCode c ts h (inR 1 8 n) = code at *
  go_enter Try.func47, Try.ntmps47
  go_wp2_with fail
  refine (HC.out _ (by (repeat (first | (with_reducible exact Below.refl _ _) | (with_reducible assumption) | (with_reducible refine below_al ?_) | (with_reducible refine below_dr ?_) | (with_reducible refine below_drN ?_) | (with_reducible refine below_set ?_ (by first | exact Nat.le_refl _ | (dsimp only; omega) | omega)) | (with_reducible refine below_tr (by with_reducible assumption) ?_)))) _ ?_).mono ?_
  · (repeat (first | (exact cell_al _ _ _ _ _ _ (by simp) rfl) | (refine cell_alloc_old _ _ _ _ _ ?_)))
  rintro e w1 ⟨hb1, ⟨hne, rfl⟩ | ⟨h0, g, hn, rfl, rfl, hg, hS⟩⟩
  · rw [hcode] at hne ⊢
    rw [if_neg hne] at hv2
    rw [hv2, if_neg hne] at hv3
    have Hw1 : Hid (Below w.heap.size w w1) := by (show Below _ _ _); (repeat (first | (with_reducible exact Below.refl _ _) | (with_reducible assumption) | (with_reducible refine below_al ?_) | (with_reducible refine below_dr ?_) | (with_reducible refine below_drN ?_) | (with_reducible refine below_set ?_ (by first | exact Nat.le_refl _ | (dsimp only; omega) | omega)) | (with_reducible refine below_tr (by with_reducible assumption) ?_)))
    have hcz : (code != 0) = true := by simp [hne]
    have HV2 := Lib.hid hv2
    have HV3 := Lib.hid hv3
    clear hb1 hne hcode hv2 hv3
    unfold stripEnd
    go_wp2
    go_ret2
    exact ⟨_, by rw [HV2.out]; rfl, by rw [HV3.out]; exact OwnII.nil _ _, Hw1.out⟩
  · obtain rfl : code = 0 := by rw [← hcode]; exact h0
    rw [if_pos rfl] at hv2
    obtain ⟨hs, hf, n1, n3, hp⟩ := hz.out rfl
    rw [Int.toNat_natCast] at hp
    have hn8 : 1 ≤ n ∧ n ≤ 8 := by unfold inR at hf; simpa using hf
    obtain ⟨nn, rfl⟩ := Int.eq_ofNat_of_zero_le (by omega : 0 ≤ n)
    have Hw1 : Hid (Below w.heap.size w w1) := by (show Below _ _ _); (repeat (first | (with_reducible exact Below.refl _ _) | (with_reducible assumption) | (with_reducible refine below_al ?_) | (with_reducible refine below_dr ?_) | (with_reducible refine below_drN ?_) | (with_reducible refine below_set ?_ (by first | exact Nat.le_refl _ | (dsimp only; omega) | omega)) | (with_reducible refine below_tr (by with_reducible assumption) ?_)))
    have d0 : w1.cell? ⟨w.heap.size + 1, 0, none⟩ = some (.int .i64 nn) := by rw [(bcell hb1).1 _ _ (by simp)]; simp
    have hN : w.heap.size + 1 < w1.heap.size := by have := hb1.size; simp at this; omega
    obtain ⟨_, ⟨c1, c6⟩, h16⟩ := isSetB_parts hs
    have p1 := powC_4 c1 c6 (h := hn) (by omega)
    have hll := Nat.le_trans (lev_len c ts hn) (pow16 h16 (by omega : hn ≤ 3))
    have hcs := lev_Codes hs hn
    obtain ⟨cn, rfl⟩ := Int.eq_ofNat_of_zero_le (by omega : 0 ≤ c)
    have hcn := lev_ColN (cn := cn) rfl hs (n := hn) (by omega)
    obtain ⟨S, hS'⟩ := Int.eq_ofNat_of_zero_le (by omega : 0 ≤ powC cn hn)
    have htr : trL cn ts hn nn = trWords S (lev cn ts hn) cn nn := by unfold trL; simp [hS']
    rw [hS'] at hS hcs p1 hp
    rw [Int.toNat_natCast] at hcs
    have HGo := Lib.hid (traces_c g cn S nn lim A ts.length cx hn (lev cn ts hn) w1 (by omega) (by omega) hlim (by omega) (by omega) (by omega) hcs hcn (by omega) hS)
    rw [htr] at hv2 hv3
    have HV2 := Lib.hid hv2
    have HV3 := Lib.hid hv3
    clear hb1 hcode hS hcs hS' hz h0 hv2 hv3 htr hcn hs hf n1 n3 p1 hp hll
    generalize trWords S (lev cn ts hn) cn nn = TW at *
    unfold stripEnd
    go_wp2_with fail
    refine HGo.out.mono ?_
    rintro e w2 ⟨hb2, v, rfl, ⟨A', n', k', rfl⟩, ho⟩
    have Hw2 := Lib.hid (Hw1.out.trans (hb2.mono Hw1.out.size))
    have HO := Lib.hid ho
    clear hb2 ho
    by_cases hle : TW.length ≤ lim
    · have e1 : decide (TW.length ≤ lim) = true := decide_eq_true hle
      rw [e1]
      have HLe := Lib.hid hle
      clear hle e1
      go_wp2
      go_ret2
      refine ⟨_, by rw [HV2.out, if_neg (by have := HLe.out; omega)]; rfl, ?_, Hw2.out⟩
      rw [HV3.out, if_pos (by rw [HV2.out, if_neg (by have := HLe.out; omega)])]
      exact (HO.out HLe.out).weaken Hw1.out.size
    · have e1 : decide (TW.length ≤ lim) = false := decide_eq_false hle
      rw [e1]
      have HLe := Lib.hid hle
      clear hle e1
      go_wp2
      go_ret2
      refine ⟨_, by rw [HV2.out, if_pos (by have := HLe.out; omega)]; rfl, ?_, Hw2.out⟩
      rw [HV3.out, if_neg (by rw [HV2.out, if_pos (by have := HLe.out; omega)]; decide)]
      exact OwnII.nil _ _
set_option maxRecDepth 100000 in
set_option maxHeartbeats 1000000 in
theorem implCountTraces_c (c : Int) (ts : List T4) (A : Option Addr) (cx : Nat) (h n : Int) (w : World) (hT : TileCells w A ts) (hl : ts.length ≤ 1000000000) :
    Calls Try.prog 19 #[.agg #[.int .i64 c, .slice A ts.length cx], .int .i64 h, .int .i64 n] w fun e w' => e = .returned (.tuple #[.int .i64 (ctVal 1000 c ts h n), .int .i64 (ctCode 1000 c ts h n)]) ∧ Below w.heap.size w w' := by
  have H2 := Lib.hid (fun (wq : World) (hwq : Below w.heap.size w wq) => traceWords_c 1000 (by decide) c ts A cx h n wq (hT.below hwq) hl)
  clear hT
  go_enter Try.func19, Try.ntmps19
  go_wp2_with fail
  refine (H2.out _ (by (repeat (first | (with_reducible exact Below.refl _ _) | (with_reducible assumption) | (with_reducible refine below_al ?_) | (with_reducible refine below_dr ?_) | (with_reducible refine below_drN ?_) | (with_reducible refine below_set ?_ (by first | exact Nat.le_refl _ | (dsimp only; omega) | omega)) | (with_reducible refine below_tr (by with_reducible assumption) ?_))))).mono ?_
  rintro e w2 ⟨v, rfl, hO, hb2⟩
  have HW : Hid (Below w.heap.size w w2) := by (show Below _ _ _); (repeat (first | (with_reducible exact Below.refl _ _) | (with_reducible assumption) | (with_reducible refine below_al ?_) | (with_reducible refine below_dr ?_) | (with_reducible refine below_drN ?_) | (with_reducible refine below_set ?_ (by first | exact Nat.le_refl _ | (dsimp only; omega) | omega)) | (with_reducible refine below_tr (by with_reducible assumption) ?_)))
  obtain ⟨Av, kv, rfl, _⟩ := hO.rows
  have HO := Lib.hid hO
  clear hb2 hO
  go_wp2
  go_ret2
  exact ⟨by rw [← twVal_len]; rfl, HW.out⟩
set_option maxRecDepth 100000 in
set_option maxHeartbeats 1000000 in
theorem implTraceWords_c (c : Int) (ts : List T4) (A : Option Addr) (cx : Nat) (h n : Int) (w : World) (hT : TileCells w A ts) (hl : ts.length ≤ 1000000000) :
    Calls Try.prog 21 #[.agg #[.int .i64 c, .slice A ts.length cx], .int .i64 h, .int .i64 n] w fun e w' => ∃ v, e = .returned (.tuple #[v, .int .i64 (ctCode 200 c ts h n)]) ∧ OwnII w' w.heap.size v (twVal 200 c ts h n) ∧ Below w.heap.size w w' := by
  have H2 := Lib.hid (fun (wq : World) (hwq : Below w.heap.size w wq) => traceWords_c 200 (by decide) c ts A cx h n wq (hT.below hwq) hl)
  clear hT
  go_enter Try.func21, Try.ntmps21
  go_wp2_with fail
  refine (H2.out _ (by (repeat (first | (with_reducible exact Below.refl _ _) | (with_reducible assumption) | (with_reducible refine below_al ?_) | (with_reducible refine below_dr ?_) | (with_reducible refine below_drN ?_) | (with_reducible refine below_set ?_ (by first | exact Nat.le_refl _ | (dsimp only; omega) | omega)) | (with_reducible refine below_tr (by with_reducible assumption) ?_))))).mono ?_
  rintro e w2 ⟨v, rfl, hO, hb2⟩
  have HW : Hid (Below w.heap.size w w2) := by (show Below _ _ _); (repeat (first | (with_reducible exact Below.refl _ _) | (with_reducible assumption) | (with_reducible refine below_al ?_) | (with_reducible refine below_dr ?_) | (with_reducible refine below_drN ?_) | (with_reducible refine below_set ?_ (by first | exact Nat.le_refl _ | (dsimp only; omega) | omega)) | (with_reducible refine below_tr (by with_reducible assumption) ?_)))
  obtain ⟨Av, kv, rfl, _⟩ := hO.rows
  have HO := Lib.hid hO
  clear hb2 hO
  go_wp2
  go_ret2
  exact ⟨_, rfl, HO.out.weaken (le_al (Nat.le_refl _)), HW.out⟩
set_option maxRecDepth 100000 in
set_option maxHeartbeats 1000000 in
theorem specTraceWords_c (c : Int) (ts : List T4) (A : Option Addr) (cx : Nat) (h n : Int) (w : World) (hT : TileCells w A ts) (hl : ts.length ≤ 1000000000) :
    Calls Try.prog 20 #[.agg #[.int .i64 c, .slice A ts.length cx], .int .i64 h, .int .i64 n] w fun e w' => ∃ v, e = .returned (.tuple #[v, .int .i64 (ctCode 200 c ts h n)]) ∧ OwnII w' w.heap.size v (twVal 200 c ts h n) ∧ Below w.heap.size w w' := by
  have H2 := Lib.hid (fun (wq : World) (hwq : Below w.heap.size w wq) => l10List_c c ts A cx h n wq (hT.below hwq) hl)
  clear hT
  go_enter Try.func20, Try.ntmps20
  go_wp2_with fail
  refine (H2.out _ (by (repeat (first | (with_reducible exact Below.refl _ _) | (with_reducible assumption) | (with_reducible refine below_al ?_) | (with_reducible refine below_dr ?_) | (with_reducible refine below_drN ?_) | (with_reducible refine below_set ?_ (by first | exact Nat.le_refl _ | (dsimp only; omega) | omega)) | (with_reducible refine below_tr (by with_reducible assumption) ?_))))).mono ?_
  rintro e w2 ⟨v, rfl, hO, hb2⟩
  have HW : Hid (Below w.heap.size w w2) := by (show Below _ _ _); (repeat (first | (with_reducible exact Below.refl _ _) | (with_reducible assumption) | (with_reducible refine below_al ?_) | (with_reducible refine below_dr ?_) | (with_reducible refine below_drN ?_) | (with_reducible refine below_set ?_ (by first | exact Nat.le_refl _ | (dsimp only; omega) | omega)) | (with_reducible refine below_tr (by with_reducible assumption) ?_)))
  obtain ⟨Av, kv, rfl, _⟩ := hO.rows
  have HO := Lib.hid hO
  clear hb2 hO
  go_wp2
  go_ret2
  exact ⟨_, rfl, HO.out.weaken (le_al (Nat.le_refl _)), HW.out⟩

end Go.Proofs.Ytpcooplalncdcaa
