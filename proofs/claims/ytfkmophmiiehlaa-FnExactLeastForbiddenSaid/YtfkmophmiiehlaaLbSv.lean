/- Contracts and lemmas for the statements of this seat, written for this claim; each theorem states its own conditions. -/
import Derived.Test.YtfkmophmiiehlaaLbSu
set_option linter.unusedVariables false
set_option linter.unusedSimpArgs false
namespace Go.Proofs.Ytfkmophmiiehlaa
open Go.RowKit
set_option maxRecDepth 100000 in
set_option maxHeartbeats 1000000 in
theorem stripOf1_c (h : Int) (b3 : Nat) (w : World) (f0 : w.cell? ⟨b3, 0, none⟩ = some (.int .i64 h)) :
    Calls Try.prog 144 #[.pointer (some ⟨b3, 0, none⟩)] w fun e w' => e = .returned (.bool (inR 1 4 h)) ∧ Below w.heap.size w w' := by
  go_enter Try.func144, Try.ntmps144
  go_wp2_with fail
  refine (within_c h 1 4 _).mono ?_
  rintro e w1 ⟨rfl, rfl⟩
  go_wp2
  go_ret
  exact ⟨rfl, Below.refl _ _⟩
def stripEnd (p : Value) (ok : Int) : Ending := .returned (.tuple #[p, .int .i64 ok])
set_option maxRecDepth 100000 in
set_option maxHeartbeats 1000000 in
theorem stripOf_c (c : Int) (ts : List T4) (A : Option Addr) (cx h : Nat) (w : World) (hs : isSetB c ts = true) (hT : TileCells w A ts) (hl : ts.length ≤ 1000000000) (h1 : 1 ≤ h) (h3 : h ≤ 3) :
    Calls Try.prog 112 #[.agg #[.int .i64 c, .slice A ts.length cx], .int .i64 h] w (StripRet w c ts A cx h (fun p => stripEnd p 3) (fun p => stripEnd p 0)) := by
  have hin : inR 1 4 (h : Int) = true := inR_iff.2 (by omega)
  have HC := Lib.hid (fun (wq : World) (hwq : Below w.heap.size w wq) (b3 : Nat) h0 => setCode_c c ts A cx 144 #[.pointer (some ⟨b3, 0, none⟩)] true wq (fun _ _ => rfl) (hT.below hwq) hl
    (fun _ w1 hb => by rw [← hin]; exact stripOf1_c h b3 w1 (keepC h0 _ hb)))
  rw [hs] at HC
  have HN := Lib.hid (fun (wq : World) (hwq : Below w.heap.size w wq) => newStrip_c c ts A cx h wq hs (hT.below hwq) h1 h3)
  clear hT hs hin
  go_enter Try.func112, Try.ntmps112
  go_wp2_with fail
  refine (HC.out _ (by (repeat (first | (with_reducible exact Below.refl _ _) | (with_reducible assumption) | (with_reducible refine below_al ?_) | (with_reducible refine below_dr ?_) | (with_reducible refine below_drN ?_) | (with_reducible refine below_set ?_ (by first | exact Nat.le_refl _ | (dsimp only; omega) | omega)) | (with_reducible refine below_tr (by with_reducible assumption) ?_)))) _ ?_).mono ?_
  · (repeat (first | (exact cell_al _ _ _ _ _ _ (by simp) rfl) | (refine cell_alloc_old _ _ _ _ _ ?_)))
  rintro e w1 ⟨rfl, hb1⟩
  have Hw1 : Hid (Below w.heap.size w w1) := by (show Below _ _ _); (repeat (first | (with_reducible exact Below.refl _ _) | (with_reducible assumption) | (with_reducible refine below_al ?_) | (with_reducible refine below_dr ?_) | (with_reducible refine below_drN ?_) | (with_reducible refine below_set ?_ (by first | exact Nat.le_refl _ | (dsimp only; omega) | omega)) | (with_reducible refine below_tr (by with_reducible assumption) ?_)))
  have d0 : w1.cell? ⟨w.heap.size, 0, none⟩ = some (.int .i64 c) := by rw [(bcell hb1).1 _ _ (by simp; omega)]; simp
  have d1 : w1.cell? ⟨w.heap.size, 1, none⟩ = some (.slice A ts.length cx) := by rw [(bcell hb1).1 _ _ (by simp; omega)]; simp
  have d2 : w1.cell? ⟨w.heap.size + 1, 0, none⟩ = some (.int .i64 h) := by rw [(bcell hb1).1 _ _ (by simp)]; simp
  have hN : w.heap.size + 1 < w1.heap.size := by have := hb1.size; simp at this; omega
  clear hb1
  rw [show codeB true true = 0 from rfl]
  go_wp2_with fail
  refine (HN.out _ Hw1.out).mono ?_
  rintro e w2 ⟨hb2, ⟨hp, rfl⟩ | ⟨hp, g, rfl, hg, hS⟩⟩
  · have Hw2 := Lib.hid (Hw1.out.trans (hb2.mono Hw1.out.size))
    clear hb2
    go_wp2
    go_ret2
    exact ⟨Hw2.out, .inl ⟨hp, rfl⟩⟩
  · have Hw2 := Lib.hid (Hw1.out.trans (hb2.mono Hw1.out.size))
    have HS := Lib.hid hS
    have hg2 : w.heap.size ≤ g := Nat.le_trans Hw1.out.size hg
    clear hb2 hS hg
    go_wp2
    go_ret2
    exact ⟨Hw2.out, .inr ⟨hp, g, rfl, hg2, HS.out⟩⟩
set_option maxRecDepth 100000 in
set_option maxHeartbeats 1000000 in
theorem traceStrip1_c (h : Int) (k : FuncId) (caps : Array Value) (fine : Bool) (b1 b2 : Nat) (w : World) (hk : ∀ args w, Sem.run Try.prog (callFunc k args) w = .ok (.enter k args) w)
    (f0 : w.cell? ⟨b1, 0, none⟩ = some (.int .i64 h)) (f1 : w.cell? ⟨b2, 0, none⟩ = some (.func (.func k) #[] caps))
    (hf : ∀ w1, Below w.heap.size w w1 → Calls Try.prog k caps w1 fun e w2 => e = .returned (.bool fine) ∧ Below w1.heap.size w1 w2) :
    Calls Try.prog 111 #[.pointer (some ⟨b1, 0, none⟩), .pointer (some ⟨b2, 0, none⟩)] w fun e w' => e = .returned (.bool (inR 1 3 h && fine)) ∧ Below w.heap.size w w' := by
  have HF := Lib.hid hf
  have HR := Lib.hid (fun w => within_c h 1 3 w)
  clear hf
  generalize inR 1 3 h = r at *
  cases r
  · go_enter Try.func111, Try.ntmps111
    go_wp2_with fail
    refine (HR.out _).mono ?_
    rintro e w1 ⟨rfl, rfl⟩
    go_wp2
    go_ret
    exact ⟨rfl, Below.refl _ _⟩
  · go_enter Try.func111, Try.ntmps111
    go_wp2_with fail
    refine (HR.out _).mono ?_
    rintro e w1 ⟨rfl, rfl⟩
    go_wp2_with fail
    refine (HF.out _ (Below.refl _ _)).mono ?_
    rintro e w2 ⟨rfl, hb2⟩
    go_wp2
    go_ret
    exact ⟨by first | rfl | simp, hb2⟩
/-- the code of what asks for a strip: h is one of 1 to 3, fine tells whether something more is as told -/
def tsCode (c : Int) (ts : List T4) (h : Int) (fine : Bool) : Int := if isSetB c ts = true then (if (inR 1 3 h && fine) = true then (if 700 < powC c h.toNat then 3 else 0) else 2) else 1
def TraceRet (w : World) (c : Int) (ts : List T4) (A : Option Addr) (cx : Nat) (h : Int) (fine : Bool) (e : Ending) (w' : World) : Prop :=
  Below w.heap.size w w' ∧ ((tsCode c ts h fine ≠ 0 ∧ e = stripEnd (.pointer none) (tsCode c ts h fine)) ∨
    (tsCode c ts h fine = 0 ∧ ∃ g, ∃ n : Nat, h = n ∧ e = stripEnd (.pointer (some ⟨g, 0, none⟩)) 0 ∧ w.heap.size ≤ g ∧ StripR w' g c A ts.length cx n (powC c n) (lev c ts n)))
theorem tsCode_zero {c : Int} {ts : List T4} {h : Int} {fine : Bool} (hz : tsCode c ts h fine = 0) : isSetB c ts = true ∧ fine = true ∧ 1 ≤ h ∧ h ≤ 3 ∧ powC c h.toNat ≤ 700 := by
  unfold tsCode at hz
  by_cases h1 : isSetB c ts = true
  · rw [if_pos h1] at hz
    by_cases h2 : (inR 1 3 h && fine) = true
    · rw [if_pos h2] at hz
      by_cases h3 : 700 < powC c h.toNat
      · rw [if_pos h3] at hz; exact absurd hz (by decide)
      · simp only [Bool.and_eq_true, inR_iff] at h2
        exact ⟨h1, h2.2, h2.1.1, h2.1.2, by omega⟩
    · rw [if_neg h2] at hz; exact absurd hz (by decide)
  · rw [if_neg h1] at hz; exact absurd hz (by decide)
set_option maxRecDepth 100000 in
set_option maxHeartbeats 1000000 in
theorem traceStrip_c (c : Int) (ts : List T4) (A : Option Addr) (cx : Nat) (h : Int) (k : FuncId) (caps : Array Value) (fine : Bool) (w : World) (hk : ∀ args w, Sem.run Try.prog (callFunc k args) w = .ok (.enter k args) w)
    (hT : TileCells w A ts) (hl : ts.length ≤ 1000000000)
    (hf : isSetB c ts = true → ∀ w1, Below w.heap.size w w1 → Calls Try.prog k caps w1 fun e w2 => e = .returned (.bool fine) ∧ Below w1.heap.size w1 w2) :
    Calls Try.prog 51 #[.agg #[.int .i64 c, .slice A ts.length cx], .int .i64 h, .func (.func k) #[] caps] w (TraceRet w c ts A cx h fine) := by
  have HC := Lib.hid (fun (wq : World) (hwq : Below w.heap.size w wq) (b1 b2 : Nat) h0 h1 => setCode_c c ts A cx 111 #[.pointer (some ⟨b1, 0, none⟩), .pointer (some ⟨b2, 0, none⟩)] (inR 1 3 h && fine) wq (fun _ _ => rfl) (hT.below hwq) hl
    (fun hs w1 hb => traceStrip1_c h k caps fine b1 b2 w1 hk (keepC h0 _ hb) (keepC h1 _ hb) (fun w2 hb2 => hf hs w2 (hwq.trans ((hb.trans (hb2.mono hb.size)).mono hwq.size)))))
  have HN := Lib.hid (fun (wq : World) (hwq : Below w.heap.size w wq) (n : Nat) hs hi h3 => stripOf_c c ts A cx n wq hs (hT.below hwq) hl hi h3)
  have hts : tsCode c ts h fine = if isSetB c ts = true then (if (inR 1 3 h && fine) = true then (if 700 < powC c h.toNat then 3 else 0) else 2) else 1 := rfl
  have hin : (inR 1 3 h && fine) = true → 1 ≤ h ∧ h ≤ 3 := fun e => by simp only [Bool.and_eq_true, inR_iff] at e; exact e.1
  unfold TraceRet
  clear hT hf
  generalize (inR 1 3 h && fine) = r at *
  generalize isSetB c ts = s at *
  cases s
  · rw [if_neg (by simp)] at hts
    rw [hts]
    clear hts hin
    go_enter Try.func51, Try.ntmps51
    go_wp2_with fail
    refine (HC.out _ (by (repeat (first | (with_reducible exact Below.refl _ _) | (with_reducible assumption) | (with_reducible refine below_al ?_) | (with_reducible refine below_dr ?_) | (with_reducible refine below_drN ?_) | (with_reducible refine below_set ?_ (by first | exact Nat.le_refl _ | (dsimp only; omega) | omega)) | (with_reducible refine below_tr (by with_reducible assumption) ?_)))) _ _ ?_ ?_).mono ?_
    · (repeat (first | (exact cell_al _ _ _ _ _ _ (by simp) rfl) | (refine cell_alloc_old _ _ _ _ _ ?_)))
    · (repeat (first | (exact cell_al _ _ _ _ _ _ (by simp) rfl) | (refine cell_alloc_old _ _ _ _ _ ?_)))
    rintro e w1 ⟨rfl, hb1⟩
    have Hw1 : Hid (Below w.heap.size w w1) := by (show Below _ _ _); (repeat (first | (with_reducible exact Below.refl _ _) | (with_reducible assumption) | (with_reducible refine below_al ?_) | (with_reducible refine below_dr ?_) | (with_reducible refine below_drN ?_) | (with_reducible refine below_set ?_ (by first | exact Nat.le_refl _ | (dsimp only; omega) | omega)) | (with_reducible refine below_tr (by with_reducible assumption) ?_)))
    clear hb1
    rw [show codeB false r = 1 from rfl]
    go_wp2
    go_ret2
    exact ⟨Hw1.out, .inl ⟨by decide, rfl⟩⟩
  · rw [if_pos rfl] at hts
    cases r
    · rw [if_neg (by simp)] at hts
      rw [hts]
      clear hts hin
      go_enter Try.func51, Try.ntmps51
      go_wp2_with fail
      refine (HC.out _ (by (repeat (first | (with_reducible exact Below.refl _ _) | (with_reducible assumption) | (with_reducible refine below_al ?_) | (with_reducible refine below_dr ?_) | (with_reducible refine below_drN ?_) | (with_reducible refine below_set ?_ (by first | exact Nat.le_refl _ | (dsimp only; omega) | omega)) | (with_reducible refine below_tr (by with_reducible assumption) ?_)))) _ _ ?_ ?_).mono ?_
      · (repeat (first | (exact cell_al _ _ _ _ _ _ (by simp) rfl) | (refine cell_alloc_old _ _ _ _ _ ?_)))
      · (repeat (first | (exact cell_al _ _ _ _ _ _ (by simp) rfl) | (refine cell_alloc_old _ _ _ _ _ ?_)))
      rintro e w1 ⟨rfl, hb1⟩
      have Hw1 : Hid (Below w.heap.size w w1) := by (show Below _ _ _); (repeat (first | (with_reducible exact Below.refl _ _) | (with_reducible assumption) | (with_reducible refine below_al ?_) | (with_reducible refine below_dr ?_) | (with_reducible refine below_drN ?_) | (with_reducible refine below_set ?_ (by first | exact Nat.le_refl _ | (dsimp only; omega) | omega)) | (with_reducible refine below_tr (by with_reducible assumption) ?_)))
      clear hb1
      rw [show codeB true false = 2 from rfl]
      go_wp2
      go_ret2
      exact ⟨Hw1.out, .inl ⟨by decide, rfl⟩⟩
    · rw [if_pos rfl] at hts
      obtain ⟨i1, i2⟩ := hin rfl
      obtain ⟨n, rfl⟩ := Int.eq_ofNat_of_zero_le (by omega : 0 ≤ h)
      rw [Int.toNat_natCast] at hts
      clear hin
      have HTS := Lib.hid hts
      clear hts
      go_enter Try.func51, Try.ntmps51
      go_wp2_with fail
      refine (HC.out _ (by (repeat (first | (with_reducible exact Below.refl _ _) | (with_reducible assumption) | (with_reducible refine below_al ?_) | (with_reducible refine below_dr ?_) | (with_reducible refine below_drN ?_) | (with_reducible refine below_set ?_ (by first | exact Nat.le_refl _ | (dsimp only; omega) | omega)) | (with_reducible refine below_tr (by with_reducible assumption) ?_)))) _ _ ?_ ?_).mono ?_
      · (repeat (first | (exact cell_al _ _ _ _ _ _ (by simp) rfl) | (refine cell_alloc_old _ _ _ _ _ ?_)))
      · (repeat (first | (exact cell_al _ _ _ _ _ _ (by simp) rfl) | (refine cell_alloc_old _ _ _ _ _ ?_)))
      rintro e w1 ⟨rfl, hb1⟩
      have Hw1 : Hid (Below w.heap.size w w1) := by (show Below _ _ _); (repeat (first | (with_reducible exact Below.refl _ _) | (with_reducible assumption) | (with_reducible refine below_al ?_) | (with_reducible refine below_dr ?_) | (with_reducible refine below_drN ?_) | (with_reducible refine below_set ?_ (by first | exact Nat.le_refl _ | (dsimp only; omega) | omega)) | (with_reducible refine below_tr (by with_reducible assumption) ?_)))
      have d0 : w1.cell? ⟨w.heap.size, 0, none⟩ = some (.int .i64 c) := by rw [(bcell hb1).1 _ _ (by simp <;> omega)]; (repeat (first | (exact cell_al _ _ _ _ _ _ (by simp) rfl) | (refine cell_alloc_old _ _ _ _ _ ?_)))
      have d1 : w1.cell? ⟨w.heap.size, 1, none⟩ = some (.slice A ts.length cx) := by rw [(bcell hb1).1 _ _ (by simp <;> omega)]; (repeat (first | (exact cell_al _ _ _ _ _ _ (by simp) rfl) | (refine cell_alloc_old _ _ _ _ _ ?_)))
      have d2 : w1.cell? ⟨w.heap.size + 1, 0, none⟩ = some (.int .i64 n) := by rw [(bcell hb1).1 _ _ (by simp <;> omega)]; (repeat (first | (exact cell_al _ _ _ _ _ _ (by simp) rfl) | (refine cell_alloc_old _ _ _ _ _ ?_)))
      have hN : w.heap.size + 1 < w1.heap.size := by have := hb1.size; simp at this; omega
      clear hb1
      rw [show codeB true true = 0 from rfl]
      go_wp2_with fail
      refine (HN.out _ Hw1.out n (by simp) (by omega) (by omega)).mono ?_
      rintro e w2 ⟨hb2, ⟨hp, rfl⟩ | ⟨hp, g, rfl, hg, hS⟩⟩
      · have Hw2 := Lib.hid (Hw1.out.trans (hb2.mono Hw1.out.size))
        clear hb2
        unfold stripEnd
        go_wp2
        go_ret2
        rw [HTS.out, if_pos hp]
        exact ⟨Hw2.out, .inl ⟨by decide, rfl⟩⟩
      · have Hw2 := Lib.hid (Hw1.out.trans (hb2.mono Hw1.out.size))
        have HS := Lib.hid hS
        have hg2 : w.heap.size ≤ g := Nat.le_trans Hw1.out.size hg
        clear hb2 hS hg
        unfold stripEnd
        go_wp2
        go_ret2
        rw [HTS.out, if_neg (by omega)]
        exact ⟨Hw2.out, .inr ⟨rfl, g, n, rfl, rfl, hg2, HS.out⟩⟩

end Go.Proofs.Ytfkmophmiiehlaa
