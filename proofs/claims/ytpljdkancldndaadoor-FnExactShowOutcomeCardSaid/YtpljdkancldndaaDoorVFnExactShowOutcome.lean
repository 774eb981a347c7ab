/- The pure statement of FnExactShowOutcome: with enough rounds the law's own function answers true, for every list and every two numbers that an int64 holds. -/
import Derived.Test.YtpljdkancldndaaDoorTFnExactShowOutcome
namespace Go.Proofs.YtpljdkancldndaaDoor.TFnExactShowOutcome
open Go.RowKit Go.Proofs.YtpljdkancldndaaDoorW.PrintWords Go.Proofs.YtpljdkancldndaaDoorW.PrintLast Go.Proofs.YtpljdkancldndaaDoor.Hand Go.Proofs.YtpljdkancldndaaDoor.PFnExactShowOutcome

theorem digits_is (n : Int) (h : I64 n) : impl_digits.f n = some (S (Lib.itoa n)) := by
  unfold impl_digits.f
  rw [if_pos ⟨h.1, h.2⟩]
  rfl

theorem S_data (a : List UInt8) : (S a).data.toList = a := by simp [S]
theorem map_S_data (ws : List (List UInt8)) : (ws.map S).map (·.data.toList) = ws := by
  rw [List.map_map]
  have : ((fun x : ByteArray => x.data.toList) ∘ S) = id := by funext a; exact S_data a
  rw [this, List.map_id]

theorem join_le (l : List Int) (h : ∀ n ∈ l, I64 n) : (Lib.join (decs l) [32]).length ≤ 22 * l.length := by
  have hl := lens_decs l h
  cases hd : decs l with
  | nil => simp [Lib.join_nil]
  | cons x r =>
    rw [Lib.join_length]
    rw [hd] at hl
    have : (decs l).length = l.length := by simp [decs]
    rw [hd] at this
    simp at this hl ⊢
    omega

theorem Join_is (ws : List (List UInt8)) (hn : ws.length ≤ 140737488355328) (hj : (Lib.join ws [32]).length ≤ 140737488355328) : strings_Join.f (ws.map S) (⟨#[32]⟩ : ByteArray) = some (S (Lib.join ws [32])) := by
  unfold strings_Join.f
  have e : (⟨#[32]⟩ : ByteArray).data.toList = [32] := rfl
  rw [map_S_data, e, if_pos ⟨by simpa using hn, hj⟩]
  rfl

theorem spaced_loop (l : List Int) (h : ∀ n ∈ l, I64 n) (hn : l.length ≤ 1048576) (d : Nat) : ∀ (k i : Nat), i + d = l.length → d < k →
    impl_spaced.l0 k ((decs (l.take i)).map S) l (l.length : Int) (i : Int) = some (S (Lib.join (decs l) [32])) := by
  induction d with
  | zero =>
    intro k i hi hk
    obtain ⟨k, rfl⟩ : ∃ q, k = q + 1 := ⟨k - 1, by omega⟩
    have hj := join_le l h
    simp only [impl_spaced.l0]
    rw [if_neg (by omega), List.take_of_length_le (by omega), Join_is _ (by simp [decs]; omega) (by omega)]
    rfl
  | succ d ih =>
    intro k i hi hk
    obtain ⟨k, rfl⟩ : ∃ q, k = q + 1 := ⟨k - 1, by omega⟩
    have hlt : i < l.length := by omega
    have hrd : rd l (i : Int) = l[i] := by simp [rd, hlt]
    simp only [impl_spaced.l0]
    rw [if_pos (by omega), if_pos (by omega), if_pos (by omega), hrd, digits_is _ (h _ (by simp))]
    simp only [Option.bind_some]
    rw [if_pos (by simp [decs]; omega), w64 (by omega) (by omega)]
    have hstep : (decs (l.take i)).map S ++ [S (Lib.itoa l[i])] = (decs (l.take (i + 1))).map S := by
      have e : decs (l.take (i + 1)) = decs (l.take i) ++ [Lib.itoa l[i]] := by
        unfold decs
        rw [List.take_succ_eq_append_getElem hlt, List.map_append]
        rfl
      rw [e, List.map_append]
      rfl
    rw [hstep]
    exact ih k (i + 1) (by omega) (by omega)
theorem spaced_is (k : Nat) (l : List Int) (h : ∀ n ∈ l, I64 n) (hn : l.length ≤ 1048576) (hk : l.length < k) : impl_spaced.f k l = some (S (Lib.join (decs l) [32])) := by
  unfold impl_spaced.f
  have := spaced_loop l h hn l.length k 0 (by omega) (by omega)
  simpa [decs] using this

/-- The text of an outcome. -/
def shown (l : List Int) (e c : Int) : List UInt8 :=
  let v := if l = [] then [45] else Lib.join (decs l) [32]
  if e = 0 then v ++ [32, 100, 111, 110, 101] else if e = 1 then v ++ [32, 116, 104, 114, 111, 119, 32] ++ Lib.itoa c else if e = 2 then v ++ [32, 116, 114, 97, 112, 32] ++ Lib.itoa c else []

theorem spec_j0 (k : Nat) (v : List UInt8) (l : List Int) (e c : Int) (hv : v.length ≤ 100000000) (hc : I64 c) (hk : 60 < k) :
    spec_ShowOutcome.j0 k (S v) l e c = some (S (if e = 0 then v ++ [32, 100, 111, 110, 101] else if e = 1 then v ++ [32, 116, 104, 114, 111, 119, 32] ++ Lib.itoa c else if e = 2 then v ++ [32, 116, 114, 97, 112, 32] ++ Lib.itoa c else [])) := by
  obtain ⟨k, rfl⟩ : ∃ q, k = q + 1 := ⟨k - 1, by omega⟩
  have hl := Lib.itoa_length_le c hc.1 hc.2
  simp only [spec_ShowOutcome.j0]
  by_cases h0 : e = 0
  · rw [if_pos h0, if_pos h0, if_pos (by rw [S_size]; omega)]
    exact congrArg some (S_app v _)
  rw [if_neg h0, if_neg h0]
  by_cases h1 : e = 1
  · rw [if_pos h1, if_pos h1, if_pos (by rw [S_size]; omega), l1Int_is k c hc.1 hc.2 (by omega)]
    simp only [Option.bind_some]
    rw [show (⟨#[32, 116, 104, 114, 111, 119, 32]⟩ : ByteArray) = S [32, 116, 104, 114, 111, 119, 32] from rfl, S_app, if_pos (by rw [S_size, S_size]; simp; omega), S_app]
  rw [if_neg h1, if_neg h1]
  by_cases h2 : e = 2
  · rw [if_pos h2, if_pos h2, if_pos (by rw [S_size]; omega), l1Int_is k c hc.1 hc.2 (by omega)]
    simp only [Option.bind_some]
    rw [show (⟨#[32, 116, 114, 97, 112, 32]⟩ : ByteArray) = S [32, 116, 114, 97, 112, 32] from rfl, S_app, if_pos (by rw [S_size, S_size]; simp; omega), S_app]
  rw [if_neg h2, if_neg h2]
  rfl

theorem impl_j0 (k : Nat) (v : List UInt8) (l : List Int) (e c : Int) (hv : v.length ≤ 100000000) (hc : I64 c) (hk : 60 < k) :
    impl_ShowOutcome.j0 k (S v) l e c = some (S (if e = 0 then v ++ [32, 100, 111, 110, 101] else if e = 1 then v ++ [32, 116, 104, 114, 111, 119, 32] ++ Lib.itoa c else if e = 2 then v ++ [32, 116, 114, 97, 112, 32] ++ Lib.itoa c else [])) := by
  obtain ⟨k, rfl⟩ : ∃ q, k = q + 1 := ⟨k - 1, by omega⟩
  have hl := Lib.itoa_length_le c hc.1 hc.2
  simp only [impl_ShowOutcome.j0]
  by_cases h0 : e = 0
  · rw [if_pos h0, if_pos h0, if_pos (by rw [S_size]; omega)]
    exact congrArg some (S_app v _)
  rw [if_neg h0, if_neg h0]
  by_cases h1 : e = 1
  · rw [if_pos h1, if_pos h1, if_pos (by rw [S_size]; omega), digits_is c hc]
    simp only [Option.bind_some]
    rw [show (⟨#[32, 116, 104, 114, 111, 119, 32]⟩ : ByteArray) = S [32, 116, 104, 114, 111, 119, 32] from rfl, S_app, if_pos (by rw [S_size, S_size]; simp; omega), S_app]
  rw [if_neg h1, if_neg h1]
  by_cases h2 : e = 2
  · rw [if_pos h2, if_pos h2, if_pos (by rw [S_size]; omega), digits_is c hc]
    simp only [Option.bind_some]
    rw [show (⟨#[32, 116, 114, 97, 112, 32]⟩ : ByteArray) = S [32, 116, 114, 97, 112, 32] from rfl, S_app, if_pos (by rw [S_size, S_size]; simp; omega), S_app]
  rw [if_neg h2, if_neg h2]
  rfl

theorem spec_is (k : Nat) (l : List Int) (e c : Int) (h : ∀ n ∈ l, I64 n) (hc : I64 c) (hn : l.length ≤ 1048576) (hk : 2 * l.length + 60 < k) : spec_ShowOutcome.f k l e c = some (S (shown l e c)) := by
  unfold spec_ShowOutcome.f shown
  have hj := join_le l h
  by_cases hz : l = []
  · subst hz
    rw [if_neg (by simp), show (⟨#[45]⟩ : ByteArray) = S [45] from rfl, spec_j0 k _ _ _ _ (by simp) hc (by omega)]
    simp
  · have : 0 < l.length := List.length_pos_iff.2 hz
    rw [if_pos (by omega), l1Ints_is k l h hn hk]
    simp only [Option.bind_some]
    rw [spec_j0 k _ _ _ _ (by omega) hc (by omega)]
    simp only [hz, if_false]

theorem impl_is (k : Nat) (l : List Int) (e c : Int) (h : ∀ n ∈ l, I64 n) (hc : I64 c) (hn : l.length ≤ 1048576) (hk : 2 * l.length + 60 < k) : impl_ShowOutcome.f k l e c = some (S (shown l e c)) := by
  unfold impl_ShowOutcome.f shown
  have hj := join_le l h
  rw [spaced_is k l h hn (by omega)]
  simp only [Option.bind_some]
  by_cases hz : l = []
  · subst hz
    rw [if_pos (by simp), show (⟨#[45]⟩ : ByteArray) = S [45] from rfl, impl_j0 k _ _ _ _ (by simp) hc (by omega)]
    simp
  · have : 0 < l.length := List.length_pos_iff.2 hz
    rw [if_neg (by omega), impl_j0 k _ _ _ _ (by omega) hc (by omega)]
    simp only [hz, if_false]

theorem law (l : List Int) (e c : Int) (h : ∀ n ∈ l, I64 n) (hc : I64 c) (hb : l.length ≤ 9223372036854775807) : ∃ k, laws_FnExactShowOutcome.f k l e c = some true := by
  refine ⟨2 * l.length + 100, ?_⟩
  unfold laws_FnExactShowOutcome.f laws_szOutcome.f laws_szInt64S.f
  rw [w64 (by omega) (by omega)]
  by_cases hbig : 1048576 - (l.length : Int) < 0
  · rw [if_pos hbig]
    simp
  · rw [if_neg hbig]
    simp only [Option.bind_some]
    rw [if_neg hbig]
    simp only [Option.bind_some]
    rw [if_neg hbig]
    have hto : laws_toOutcome.f (2 * l.length + 100) l e c = some (l, e, c) := by
      unfold laws_toOutcome.f
      rw [toInt64S_is _ l (by omega) (by omega)]
      rfl
    have heq : laws_eqOutcome.f (2 * l.length + 100) l e c l e c = some true := by
      unfold laws_eqOutcome.f
      rw [eqInt64S_is _ l (by omega) (by omega)]
      simp
    rw [hto]
    simp only [Option.bind_some]
    rw [spec_is _ l e c h hc (by omega) (by omega)]
    simp only [Option.bind_some]
    rw [impl_is _ l e c h hc (by omega) (by omega)]
    simp only [Option.bind_some]
    rw [if_pos trivial, heq]
    simp

end Go.Proofs.YtpljdkancldndaaDoor.TFnExactShowOutcome
