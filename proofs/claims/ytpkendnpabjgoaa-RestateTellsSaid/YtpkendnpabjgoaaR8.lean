import Derived.Test.YtpkendnpabjgoaaR7
namespace Go.Proofs.Ytpkendnpabjgoaa
open Go.Own
set_option maxHeartbeats 1000000
set_option maxRecDepth 100000

def paysL : List Pay := [⟨0, 4, 0, 0, 10, 0⟩, ⟨0, 4, 0, 0, 5, 0⟩, ⟨0, 6, 0, 0, 2, 0⟩]
theorem tally1 : tally paysL [7, 5, 9] [false, false, false] 3 = ([(4, 3)], [(6, 7)]) := by decide
theorem tally2 : tally paysL [7, 5, 9] [true, false, false] 3 = ([], [(6, 7)]) := by decide
theorem keys1 (k v : Int) : keysI [(k, v)] = [k] := by simp [keysI]
theorem keys0 : keysI ([] : List (Int × Int)) = [] := by simp [keysI]

theorem back1 : APure Try.prog 10 [encPs paysL, encIs [7, 5, 9], encBs [false, false, false]] (fun rs => rs = [.new (.row 48 2 encSh s0 [⟨4, 3⟩]), .new (.row 48 2 encSh s0 [⟨6, 7⟩]), .val (.int .i64 0)]) := by
  have h := backs_ok paysL (by decide) (by decide) [7, 5, 9] [false, false, false] (by decide) (by decide)
  have e1 : anyBad paysL [7, 5, 9] paysL.length = false := by decide
  have e2 : tally paysL [7, 5, 9] [false, false, false] paysL.length = ([(4, 3)], [(6, 7)]) := tally1
  rw [if_neg (by decide), if_neg (by rw [e1]; exact Bool.noConfusion), e2] at h
  simp only [keys1, shares] at h
  exact h

theorem back2 : APure Try.prog 10 [encPs paysL, encIs [7, 5, 9], encBs [true, false, false]] (fun rs => rs = [.new (.row 48 2 encSh s0 []), .new (.row 48 2 encSh s0 [⟨6, 7⟩]), .val (.int .i64 0)]) := by
  have h := backs_ok paysL (by decide) (by decide) [7, 5, 9] [true, false, false] (by decide) (by decide)
  have e1 : anyBad paysL [7, 5, 9] paysL.length = false := by decide
  have e2 : tally paysL [7, 5, 9] [true, false, false] paysL.length = ([], [(6, 7)]) := tally2
  rw [if_neg (by decide), if_neg (by rw [e1]; exact Bool.noConfusion), e2] at h
  simp only [keys1, keys0, shares] at h
  exact h

theorem ch_ok (x : Int) (ys : List Int) (h : trues (chRow [x] valuesL) = ys) : APure Try.prog 15 [encVs valuesL, encIs [x]] (fun rs => rs = [.new (.row 3 1 encI 0 ys)]) := by
  have := changed_ok valuesL fits_values (by decide) [x] (by simp)
  rw [if_pos (by decide), h] at this
  exact this

theorem small_ok : APureV Try.prog 8 [] (.bool true) := by
  refine apure_of (C := cx 85 [0, 1, 2, 3, 4, 5, 6, 7, 8, 9]) (cxOk _ _) Try.func8 rfl (by decide) rfl (by exact Nat.le_of_ble_eq_true rfl) (by decide) ?_
  conv => whnf
  refine .one _ _ _ (fun _ => back1) (by repeat (first | exact .nil | (apply BorL.cons; first | exact lS rfl | exact lR rfl | exact lM rfl rfl | exact lL rfl | exact lX rfl | exact lN | exact lNl | exact lSm rfl | exact lIm rfl | exact lP rfl | exact lQ rfl))) (by first | exact .inl rfl | exact .inr (by repeat (first | exact flats_nil | refine flats_cons (by first | exact flat_val _ rfl | exact flat_row (fun _ => rfl) | exact flat_lst (fun _ => rfl)) ?_))) (by first | exact .inl rfl | exact .inr rfl) ?_
  conv => whnf
  refine .one _ _ _ (fun _ => back2) (by repeat (first | exact .nil | (apply BorL.cons; first | exact lS rfl | exact lR rfl | exact lM rfl rfl | exact lL rfl | exact lX rfl | exact lN | exact lNl | exact lSm rfl | exact lIm rfl | exact lP rfl | exact lQ rfl))) (by first | exact .inl rfl | exact .inr (by repeat (first | exact flats_nil | refine flats_cons (by first | exact flat_val _ rfl | exact flat_row (fun _ => rfl) | exact flat_lst (fun _ => rfl)) ?_))) (by first | exact .inl rfl | exact .inr rfl) ?_
  conv => whnf
  refine .one _ _ _ (fun _ => values_ok) (by repeat (first | exact .nil | (apply BorL.cons; first | exact lS rfl | exact lR rfl | exact lM rfl rfl | exact lL rfl | exact lX rfl | exact lN | exact lNl | exact lSm rfl | exact lIm rfl | exact lP rfl | exact lQ rfl))) (by first | exact .inl rfl | exact .inr (by repeat (first | exact flats_nil | refine flats_cons (by first | exact flat_val _ rfl | exact flat_row (fun _ => rfl) | exact flat_lst (fun _ => rfl)) ?_))) (by first | exact .inl rfl | exact .inr rfl) ?_
  conv => whnf
  have hr : APureV Try.prog 12 [encVs valuesL] (.bool true) := right_ok valuesL fits_values
  have c1 := ch_ok 7 [0, 2] (by decide)
  have c2 := ch_ok 8 [1, 2, 3] (by decide)
  have c3 := ch_ok 9 [] (by decide)
  have i1 : APureV Try.prog 14 [encIs [0, 2], encIs [0, 2]] (.bool true) := ints_ok [0, 2] [0, 2] (by decide) (by decide)
  have i2 : APureV Try.prog 14 [encIs [1, 2, 3], encIs [1, 2, 3]] (.bool true) := ints_ok [1, 2, 3] [1, 2, 3] (by decide) (by decide)
  have s1 : APureV Try.prog 17 [encShs [⟨4, 3⟩], encShs [⟨4, 3⟩]] (.bool true) := same_ok [⟨4, 3⟩] [⟨4, 3⟩] (by decide) (by decide)
  have s2 : APureV Try.prog 17 [encShs [⟨6, 7⟩], encShs [⟨6, 7⟩]] (.bool true) := same_ok [⟨6, 7⟩] [⟨6, 7⟩] (by decide) (by decide)
  refine .one _ _ _ (fun _ => hr) (by repeat (first | exact .nil | (apply BorL.cons; first | exact lS rfl | exact lR rfl | exact lM rfl rfl | exact lL rfl | exact lX rfl | exact lN | exact lNl | exact lSm rfl | exact lIm rfl | exact lP rfl | exact lQ rfl))) (by first | exact .inl rfl | exact .inr (by repeat (first | exact flats_nil | refine flats_cons (by first | exact flat_val _ rfl | exact flat_row (fun _ => rfl) | exact flat_lst (fun _ => rfl)) ?_))) (by first | exact .inl rfl | exact .inr rfl) ?_
  conv => whnf
  refine And.intro (fun _ => ?_) (fun h => absurd h (by simp [andG, polB]))
  conv => whnf
  refine .one _ _ _ (fun _ => values_ok) (by repeat (first | exact .nil | (apply BorL.cons; first | exact lS rfl | exact lR rfl | exact lM rfl rfl | exact lL rfl | exact lX rfl | exact lN | exact lNl | exact lSm rfl | exact lIm rfl | exact lP rfl | exact lQ rfl))) (by first | exact .inl rfl | exact .inr (by repeat (first | exact flats_nil | refine flats_cons (by first | exact flat_val _ rfl | exact flat_row (fun _ => rfl) | exact flat_lst (fun _ => rfl)) ?_))) (by first | exact .inl rfl | exact .inr rfl) ?_
  conv => whnf
  refine And.intro (fun _ => ?_) (fun h => absurd h (by simp [andG, polB]))
  conv => whnf
  refine And.intro (fun _ => ?_) (fun h => absurd h (by simp [andG, polB]))
  conv => whnf
  refine .one _ _ _ (fun _ => c1) (by repeat (first | exact .nil | (apply BorL.cons; first | exact lS rfl | exact lR rfl | exact lM rfl rfl | exact lL rfl | exact lX rfl | exact lN | exact lNl | exact lSm rfl | exact lIm rfl | exact lP rfl | exact lQ rfl))) (by first | exact .inl rfl | exact .inr (by repeat (first | exact flats_nil | refine flats_cons (by first | exact flat_val _ rfl | exact flat_row (fun _ => rfl) | exact flat_lst (fun _ => rfl)) ?_))) (by first | exact .inl rfl | exact .inr rfl) ?_
  conv => whnf
  refine And.intro (fun _ => ?_) (fun h => absurd h (by simp [andG, polB]))
  conv => whnf
  refine .one _ _ _ (fun _ => i1) (by repeat (first | exact .nil | (apply BorL.cons; first | exact lS rfl | exact lR rfl | exact lM rfl rfl | exact lL rfl | exact lX rfl | exact lN | exact lNl | exact lSm rfl | exact lIm rfl | exact lP rfl | exact lQ rfl))) (by first | exact .inl rfl | exact .inr (by repeat (first | exact flats_nil | refine flats_cons (by first | exact flat_val _ rfl | exact flat_row (fun _ => rfl) | exact flat_lst (fun _ => rfl)) ?_))) (by first | exact .inl rfl | exact .inr rfl) ?_
  conv => whnf
  refine And.intro (fun _ => ?_) (fun h => absurd h (by simp [andG, polB]))
  conv => whnf
  refine .one _ _ _ (fun _ => values_ok) (by repeat (first | exact .nil | (apply BorL.cons; first | exact lS rfl | exact lR rfl | exact lM rfl rfl | exact lL rfl | exact lX rfl | exact lN | exact lNl | exact lSm rfl | exact lIm rfl | exact lP rfl | exact lQ rfl))) (by first | exact .inl rfl | exact .inr (by repeat (first | exact flats_nil | refine flats_cons (by first | exact flat_val _ rfl | exact flat_row (fun _ => rfl) | exact flat_lst (fun _ => rfl)) ?_))) (by first | exact .inl rfl | exact .inr rfl) ?_
  conv => whnf
  refine And.intro (fun _ => ?_) (fun h => absurd h (by simp [andG, polB]))
  conv => whnf
  refine And.intro (fun _ => ?_) (fun h => absurd h (by simp [andG, polB]))
  conv => whnf
  refine .one _ _ _ (fun _ => c2) (by repeat (first | exact .nil | (apply BorL.cons; first | exact lS rfl | exact lR rfl | exact lM rfl rfl | exact lL rfl | exact lX rfl | exact lN | exact lNl | exact lSm rfl | exact lIm rfl | exact lP rfl | exact lQ rfl))) (by first | exact .inl rfl | exact .inr (by repeat (first | exact flats_nil | refine flats_cons (by first | exact flat_val _ rfl | exact flat_row (fun _ => rfl) | exact flat_lst (fun _ => rfl)) ?_))) (by first | exact .inl rfl | exact .inr rfl) ?_
  conv => whnf
  refine And.intro (fun _ => ?_) (fun h => absurd h (by simp [andG, polB]))
  conv => whnf
  refine .one _ _ _ (fun _ => i2) (by repeat (first | exact .nil | (apply BorL.cons; first | exact lS rfl | exact lR rfl | exact lM rfl rfl | exact lL rfl | exact lX rfl | exact lN | exact lNl | exact lSm rfl | exact lIm rfl | exact lP rfl | exact lQ rfl))) (by first | exact .inl rfl | exact .inr (by repeat (first | exact flats_nil | refine flats_cons (by first | exact flat_val _ rfl | exact flat_row (fun _ => rfl) | exact flat_lst (fun _ => rfl)) ?_))) (by first | exact .inl rfl | exact .inr rfl) ?_
  conv => whnf
  refine And.intro (fun _ => ?_) (fun h => absurd h (by simp [andG, polB]))
  conv => whnf
  refine .one _ _ _ (fun _ => values_ok) (by repeat (first | exact .nil | (apply BorL.cons; first | exact lS rfl | exact lR rfl | exact lM rfl rfl | exact lL rfl | exact lX rfl | exact lN | exact lNl | exact lSm rfl | exact lIm rfl | exact lP rfl | exact lQ rfl))) (by first | exact .inl rfl | exact .inr (by repeat (first | exact flats_nil | refine flats_cons (by first | exact flat_val _ rfl | exact flat_row (fun _ => rfl) | exact flat_lst (fun _ => rfl)) ?_))) (by first | exact .inl rfl | exact .inr rfl) ?_
  conv => whnf
  refine And.intro (fun _ => ?_) (fun h => absurd h (by simp [andG, polB]))
  conv => whnf
  refine And.intro (fun _ => ?_) (fun h => absurd h (by simp [andG, polB]))
  conv => whnf
  refine .one _ _ _ (fun _ => c3) (by repeat (first | exact .nil | (apply BorL.cons; first | exact lS rfl | exact lR rfl | exact lM rfl rfl | exact lL rfl | exact lX rfl | exact lN | exact lNl | exact lSm rfl | exact lIm rfl | exact lP rfl | exact lQ rfl))) (by first | exact .inl rfl | exact .inr (by repeat (first | exact flats_nil | refine flats_cons (by first | exact flat_val _ rfl | exact flat_row (fun _ => rfl) | exact flat_lst (fun _ => rfl)) ?_))) (by first | exact .inl rfl | exact .inr rfl) ?_
  conv => whnf
  refine And.intro (fun _ => ?_) (fun h => absurd h (by simp [andG, polB]))
  conv => whnf
  refine .one _ _ _ (fun _ => s1) (by repeat (first | exact .nil | (apply BorL.cons; first | exact lS rfl | exact lR rfl | exact lM rfl rfl | exact lL rfl | exact lX rfl | exact lN | exact lNl | exact lSm rfl | exact lIm rfl | exact lP rfl | exact lQ rfl))) (by first | exact .inl rfl | exact .inr (by repeat (first | exact flats_nil | refine flats_cons (by first | exact flat_val _ rfl | exact flat_row (fun _ => rfl) | exact flat_lst (fun _ => rfl)) ?_))) (by first | exact .inl rfl | exact .inr rfl) ?_
  conv => whnf
  refine .one _ _ _ (fun _ => s2) (by repeat (first | exact .nil | (apply BorL.cons; first | exact lS rfl | exact lR rfl | exact lM rfl rfl | exact lL rfl | exact lX rfl | exact lN | exact lNl | exact lSm rfl | exact lIm rfl | exact lP rfl | exact lQ rfl))) (by first | exact .inl rfl | exact .inr (by repeat (first | exact flats_nil | refine flats_cons (by first | exact flat_val _ rfl | exact flat_row (fun _ => rfl) | exact flat_lst (fun _ => rfl)) ?_))) (by first | exact .inl rfl | exact .inr rfl) ?_
  conv => whnf
  refine .one _ _ _ (fun _ => s2) (by repeat (first | exact .nil | (apply BorL.cons; first | exact lS rfl | exact lR rfl | exact lM rfl rfl | exact lL rfl | exact lX rfl | exact lN | exact lNl | exact lSm rfl | exact lIm rfl | exact lP rfl | exact lQ rfl))) (by first | exact .inl rfl | exact .inr (by repeat (first | exact flats_nil | refine flats_cons (by first | exact flat_val _ rfl | exact flat_row (fun _ => rfl) | exact flat_lst (fun _ => rfl)) ?_))) (by first | exact .inl rfl | exact .inr rfl) ?_
  conv => whnf
  rfl

end Go.Proofs.Ytpkendnpabjgoaa
