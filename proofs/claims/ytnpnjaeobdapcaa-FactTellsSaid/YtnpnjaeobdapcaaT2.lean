import Derived.Test.YtnpnjaeobdapcaaT1
namespace Go.Proofs.Ytnpnjaeobdapcaa
open Go.Own
set_option maxHeartbeats 400000

def letterB (c : Int) : Bool := decide (97 ≤ c) && decide (c ≤ 122)
theorem letter_ok (c : Int) : APureV Try.prog 47 [.int .u8 c] (.bool (letterB c)) := by
  refine apure_of (C := cx 9 [0, 2]) (cxOk _ _) Try.func47 rfl (by decide) rfl (by exact Nat.le_of_ble_eq_true rfl) (by decide) ?_
  conv => whnf
  rfl
def digitB (c : Int) : Bool := decide (48 ≤ c) && decide (c ≤ 57)
theorem digit_ok (c : Int) : APureV Try.prog 50 [.int .u8 c] (.bool (digitB c)) := by
  refine apure_of (C := cx 9 [0, 2]) (cxOk _ _) Try.func50 rfl (by decide) rfl (by exact Nat.le_of_ble_eq_true rfl) (by decide) ?_
  conv => whnf
  rfl
def wordC (c : Int) : Bool := letterB c || digitB c
theorem word1_ok (c : Int) : APureV Try.prog 49 [.int .u8 c] (.bool (wordC c)) := by
  refine apure_of (C := cx 9 [0, 2]) (cxOk _ _) Try.func49 rfl (by decide) rfl (by exact Nat.le_of_ble_eq_true rfl) (by decide) ?_
  conv => whnf
  refine .one _ _ _ (fun _ => letter_ok _) (.cons (.base (.base (.same _ rfl))) .nil) (.inl rfl) (.inr rfl) ?_
  conv => whnf
  refine .one _ _ _ (fun _ => digit_ok _) (.cons (.base (.base (.same _ rfl))) .nil) (.inl rfl) (.inr rfl) ?_
  conv => whnf
  rfl
def spanN (p : Int → Bool) : List UInt8 → Nat
  | [] => 0
  | c :: s => if p c.toNat then spanN p s + 1 else 0

theorem span_ok (f : Fn) (n : Nat) (hf : f = .func n) (p : Int → Bool) (hp : ∀ c, APureV Try.prog n [.int .u8 c] (.bool (p c))) (s : List UInt8) (hs : s.length ≤ 9223372036854775807) : APureV Try.prog 48 [.str s, .fn f [] []] (.int .i64 (spanN p s)) := by
  subst hf
  refine apure_of (C := cx 20 [0, 1, 4, 5, 16]) (cxOk _ _) Try.func48 rfl (by decide) rfl (by exact Nat.le_of_ble_eq_true rfl) (by decide) ?_
  conv => whnf
  refine loop_inv (cxOk _ _) (σ := Nat) (fun k => k ≤ s.length ∧ spanN p s = k + spanN p (s.drop k)) (fun k => s.length - k) (fun k => ⟨[(0, .str s), (1, .fn (.func n) [] []), (5, .int .i64 k)], [], 0⟩) 0 ⟨Nat.zero_le _, by simp⟩ ?_ ?_
  · exact wk_of [] rfl ⟨.base (.tree _ _ rfl rfl), .fn _ _ _ _ _ .nil .nil, .base (.tree _ _ rfl rfl), trivial⟩ trivial
  · rintro k ⟨hk, hsp⟩
    conv => whnf
    refine ⟨fun hg => by simp [andG, polB] at hg; omega, ?_⟩
    conv => whnf
    refine .one _ _ _ (fun _ => hp _) (.cons (.base (.base (.same _ rfl))) .nil) (.inl rfl) (.inr rfl) ?_
    conv => whnf
    have hcons : ∀ (h : k < s.length), spanN p (s.drop k) = if p (s.getD k 0).toNat then spanN p (s.drop (k + 1)) + 1 else 0 := fun h => by
      rw [List.drop_eq_getElem_cons h, spanN]
      simp [List.getD, List.getElem?_eq_getElem h]
    refine ⟨fun hc => ?_, fun hc => ?_⟩
    · simp only [Bool.and_eq_true, decide_eq_true_eq, Int.toNat_natCast] at hc
      have hlt : k < s.length := by omega
      conv => whnf
      refine ⟨by constructor <;> omega, ?_⟩
      conv => whnf
      refine ⟨k + 1, ⟨by omega, ?_⟩, by show s.length - (k + 1) < s.length - k; omega, wk_of [] rfl ⟨.base (.tree _ _ rfl rfl), .fn _ _ _ _ _ .nil .nil, .base (.tree _ _ rfl rfl), trivial⟩ trivial⟩
      rw [hsp, hcons hlt, if_pos hc.2]
      omega
    · conv => whnf
      simp only [Bool.and_eq_false_iff, decide_eq_false_iff_not, Int.toNat_natCast] at hc
      have : spanN p (s.drop k) = 0 := by
        by_cases hlt : k < s.length
        · rw [hcons hlt]
          rcases hc with hc | hc
          · omega
          · rw [hc]; rfl
        · rw [List.drop_eq_nil_of_le (by omega)]; rfl
      rw [hsp, this]
      rfl

def wordB (s : List UInt8) : Bool := !(decide (s = []) || !letterB (s.getD 0 0).toNat || decide (20 < (s.length : Int))) && decide ((spanN wordC s : Int) = (s.length : Int))
theorem word_ok (s : List UInt8) (hs : s.length ≤ 9223372036854775807) : APureV Try.prog 39 [.str s] (.bool (wordB s)) := by
  refine apure_of (C := cx 21 [0, 2, 15]) (cxOk _ _) Try.func39 rfl (by decide) rfl (by exact Nat.le_of_ble_eq_true rfl) (by decide) ?_
  conv => whnf
  refine ⟨fun hg => ?_, ?_⟩
  · have : s ≠ [] := by simpa [andG, polB] using hg
    have := List.length_pos_iff.2 this
    omega
  conv => whnf
  refine .one _ _ _ (fun _ => letter_ok _) (.cons (.base (.base (.same _ rfl))) .nil) (.inl rfl) (.inr rfl) ?_
  conv => whnf
  refine ⟨fun hc => ?_, fun hc => ?_⟩
  · conv => whnf
    have hc' : (decide (s = []) || !letterB (s.getD 0 0).toNat || decide (20 < (s.length : Int))) = true := hc
    have : wordB s = false := by rw [wordB, hc']; rfl
    rw [this]
    rfl
  · conv => whnf
    have hc' : (decide (s = []) || !letterB (s.getD 0 0).toNat || decide (20 < (s.length : Int))) = false := hc
    refine .one _ _ _ (fun _ => span_ok (.func 49) 49 rfl wordC word1_ok s hs) (.cons (.base (.base (.same _ rfl))) (.cons (.fn _ _ _ _ _ _ _ .nil .nil) .nil)) (.inl rfl) (.inr rfl) ?_
    conv => whnf
    have : wordB s = decide ((spanN wordC s : Int) = (s.length : Int)) := by rw [wordB, hc']; rfl
    rw [this]
    rfl

/-- A slice of strings. -/
def encS (s : List UInt8) : AV := .str s
def encSs (l : List (List UInt8)) : AV := .sl 1 encS [] l

theorem index_ok (l : List (List UInt8)) (hl : l.length ≤ 9223372036854775807) (s : List UInt8) : APure Try.prog 51 [encSs l, .str s] (fun rs => ∃ i : Int, rs = [.val (.int .i64 i)] ∧ (0 ≤ i ↔ s ∈ l)) := by
  refine apure_of (C := cx 19 [0, 1, 4, 5, 7, 8, 9, 16]) (cxOk _ _) Try.func51 rfl (by decide) rfl (by exact Nat.le_of_ble_eq_true rfl) (by decide) ?_
  conv => whnf
  refine loop_up (cxOk _ _) l.length (fun k => s ∉ l.take k) (fun k => ⟨[(0, encSs l), (1, .str s), (7, .int .i64 l.length), (8, .int .i64 k)], [], 0⟩) (by simp) ?_ ?_
  · exact wk_of [] rfl ⟨.base (.tree _ _ rfl rfl), .base (.tree _ _ rfl rfl), .base (.tree _ _ rfl rfl), .base (.tree _ _ rfl rfl), trivial⟩ trivial
  · intro k hk hP
    conv => whnf
    refine ⟨fun hc => ?_, fun hc => ?_⟩
    · simp only [decide_eq_true_eq] at hc
      conv => whnf
      refine ⟨by constructor <;> omega, ?_⟩
      conv => whnf
      refine ⟨rfl, ?_⟩
      conv => whnf
      refine ⟨fun hd => ?_, fun hd => ?_⟩
      · conv => whnf
        simp only [Int.toNat_natCast, decide_eq_true_eq] at hd
        refine ⟨k, rfl, fun _ => ?_, fun _ => by omega⟩
        rw [hd]
        exact getD_mem (by omega)
      · conv => whnf
        simp only [Int.toNat_natCast, decide_eq_false_iff_not] at hd
        refine ⟨by constructor <;> omega, ?_⟩
        conv => whnf
        refine up (by omega) ?_ (wk_of [] rfl ⟨.base (.tree _ _ rfl rfl), .base (.tree _ _ rfl rfl), .base (.tree _ _ rfl rfl), .base (.tree _ _ rfl rfl), trivial⟩ trivial)
        rw [take_getD (d := []) (by omega)]
        simp only [List.mem_append, List.mem_singleton]
        rintro (h | h)
        · exact hP h
        · exact hd h
    · simp only [decide_eq_false_iff_not] at hc
      conv => whnf
      refine ⟨-1, rfl, by omega, fun h => ?_⟩
      rw [List.take_of_length_le (by omega)] at hP
      exact (hP h).elim

theorem contains_ok (l : List (List UInt8)) (hl : l.length ≤ 9223372036854775807) (s : List UInt8) : APureV Try.prog 40 [encSs l, .str s] (.bool (decide (s ∈ l))) := by
  refine apure_of (C := cx 9 [0, 1, 4]) (cxOk _ _) Try.func40 rfl (by decide) rfl (by exact Nat.le_of_ble_eq_true rfl) (by decide) ?_
  conv => whnf
  refine .any _ _ _ ⟨rfl, rfl⟩ (index_ok l hl s) (.cons (.base (.base (.same _ rfl))) (.cons (.base (.base (.same _ rfl))) .nil)) (.inl rfl) ?_
  rintro rs ⟨i, rfl, hi⟩
  conv => whnf
  have : decide (s ∈ l) = decide (0 ≤ i) := by simp [hi]
  rw [this]
  rfl

def reservedL : List (List UInt8) := [[97, 99, 116, 117, 97, 108], [97, 100, 106, 117, 115, 116], [97, 110, 100], [97, 116], [98, 101, 102, 111, 114, 101], [99, 97, 108, 108], [99, 97, 112], [99, 111, 105, 110, 115], [99, 111, 117, 110, 116], [99, 111, 117, 112, 111, 110], [99, 111, 118, 101, 110, 97, 110, 116], [99, 114, 111, 115, 115], [100, 97, 121, 115], [101, 108, 115, 101], [101, 118, 101, 114], [101, 118, 101, 114, 121], [102, 97, 99, 101], [102, 97, 99, 116], [102, 97, 108, 115, 101], [102, 97, 115, 116], [102, 97, 118, 111, 117, 114], [102, 105, 120, 101, 100], [102, 114, 111, 109], [103, 114, 97, 99, 101], [105, 102], [105, 115, 115, 117, 101], [108, 101, 116], [108, 111, 110, 103], [109, 97, 106, 111, 114, 105, 116, 121], [109, 97, 120], [109, 105, 108, 108, 101], [109, 105, 110], [109, 111, 100, 105, 102, 105, 101, 100], [109, 111, 110, 116, 104, 115], [109, 117, 115, 116], [110, 101, 120, 116], [110, 111, 110, 101], [110, 111, 116], [110, 111, 116, 105, 99, 101], [111, 102], [111, 114], [114, 97, 110, 107], [114, 97, 116, 101], [114, 101, 99, 111, 114, 100], [115, 105, 110, 107], [115, 111, 111, 110], [116, 104, 101, 110], [116, 104, 105, 114, 116, 121], [116, 111], [116, 114, 117, 101]]
theorem reserved_ok : APureV Try.prog 41 [] (encSs reservedL) := by
  have h : APure Try.prog 41 [] (fun rs => rs = [.new (.lst 9 1 (reservedL.map encS))]) := by
    refine apure_of (C := cx 2 [0]) (cxOk _ _) Try.func41 rfl (by decide) rfl (by exact Nat.le_of_ble_eq_true rfl) (by decide) ?_
    conv => whnf
    rfl
  exact h.freeze1.le1 (.lsl _ _ _ _ _ rfl)

def nameB (s : List UInt8) : Bool := wordB s && !decide (s ∈ reservedL)
theorem name_ok (s : List UInt8) (hs : s.length ≤ 9223372036854775807) : APureV Try.prog 33 [.str s] (.bool (nameB s)) := by
  refine apure_of (C := cx 11 [0, 2]) (cxOk _ _) Try.func33 rfl (by decide) rfl (by exact Nat.le_of_ble_eq_true rfl) (by decide) ?_
  conv => whnf
  refine .one _ _ _ (fun _ => word_ok s hs) (by repeat (first | exact .nil | (apply BorL.cons; first | exact lS rfl | exact lR rfl | exact lM rfl rfl | exact lL rfl | exact lX rfl | exact lN | exact lNl | exact lSm rfl | exact lIm rfl | exact lP rfl | exact lQ rfl))) (by first | exact .inl rfl | exact .inr (by repeat (first | exact flats_nil | refine flats_cons (by first | exact flat_val _ rfl | exact flat_row (fun _ => rfl) | exact flat_lst (fun _ => rfl)) ?_))) (by first | exact .inl rfl | exact .inr rfl) ?_
  conv => whnf
  refine And.intro (fun hg => ?_) (fun hg => ?_)
  · conv => whnf
    refine .one _ _ _ (fun _ => reserved_ok) (by repeat (first | exact .nil | (apply BorL.cons; first | exact lS rfl | exact lR rfl | exact lM rfl rfl | exact lL rfl | exact lX rfl | exact lN | exact lNl | exact lSm rfl | exact lIm rfl | exact lP rfl | exact lQ rfl))) (by first | exact .inl rfl | exact .inr (by repeat (first | exact flats_nil | refine flats_cons (by first | exact flat_val _ rfl | exact flat_row (fun _ => rfl) | exact flat_lst (fun _ => rfl)) ?_))) (by first | exact .inl rfl | exact .inr rfl) ?_
    conv => whnf
    refine .one _ _ _ (fun _ => contains_ok reservedL (by decide) s) (by repeat (first | exact .nil | (apply BorL.cons; first | exact lS rfl | exact lR rfl | exact lM rfl rfl | exact lL rfl | exact lX rfl | exact lN | exact lNl | exact lSm rfl | exact lIm rfl | exact lP rfl | exact lQ rfl))) (by first | exact .inl rfl | exact .inr (by repeat (first | exact flats_nil | refine flats_cons (by first | exact flat_val _ rfl | exact flat_row (fun _ => rfl) | exact flat_lst (fun _ => rfl)) ?_))) (by first | exact .inl rfl | exact .inr rfl) ?_
    conv => whnf
    rfl
  · have hw : wordB s = false := by simpa [andG, polB] using hg
    conv => whnf
    refine .one _ _ [.val (.bool false)] (fun hg' => Bool.noConfusion (hg.symm.trans hg')) (.cons (lS rfl) (.cons (lS rfl) .nil)) (.inl rfl) (.inr rfl) ?_
    conv => whnf
    simp [nameB, hw]

end Go.Proofs.Ytnpnjaeobdapcaa
