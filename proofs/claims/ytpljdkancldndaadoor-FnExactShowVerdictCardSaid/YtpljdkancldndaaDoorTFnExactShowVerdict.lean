/- What the printed functions on numbers and words answer: l1Int is the decimal text, l1Words joins. -/
import Derived.Test.YtpljdkancldndaaDoorPFnExactShowVerdictx
import Derived.Lib.Join
import Derived.Lib.ItoaLen
namespace Go.Proofs.YtpljdkancldndaaDoor.TFnExactShowVerdict
open Go.RowKit Go.Proofs.YtpljdkancldndaaDoorW.PrintWords Go.Proofs.YtpljdkancldndaaDoorW.PrintLast Go.Proofs.YtpljdkancldndaaDoor.PFnExactShowVerdict

theorem w64 {x : Int} (h0 : -9223372036854775808 ≤ x) (h1 : x ≤ 9223372036854775807) : wrap64 x = x := by unfold wrap64; omega

def S (l : List UInt8) : ByteArray := ⟨l.toArray⟩
theorem S_app (a b : List UInt8) : S a ++ S b = S (a ++ b) := ByteArray.mk_append_mk a b
theorem S_size (a : List UInt8) : (S a).size = a.length := by simp [S, ByteArray.size]
theorem S_toList (a : List UInt8) : (S a).toList = a := by rw [ByteArray.toList_eq]; simp [S]

/-! numbers -/
theorem digit_piece (n : Nat) (h : n < 10) : strOfNums [wrap64 (48 + (n : Int)) % 256] = S [UInt8.ofNat (48 + n)] := by
  rw [w64 (by omega) (by omega)]
  unfold strOfNums S
  simp only [List.map_cons, List.map_nil]
  congr 3
  have : ((48 + (n : Int)) % 256).toNat = 48 + n := by omega
  rw [this]

def sgn (neg : Bool) (s : List UInt8) : List UInt8 := if neg = true then 45 :: s else s

theorem l1Int_done (k : Nat) (s : List UInt8) (neg : Bool) (hs : s ≠ []) (hl : s.length ≤ 100) : spec_l1Int.l0 (k + 2) 0 (S s) neg = some (S (sgn neg s)) := by
  simp only [spec_l1Int.l0, spec_l1Int.j1]
  rw [if_neg (by rw [S_toList]; exact hs)]
  simp only [bne_self_eq_false, Bool.false_eq_true, if_false]
  cases neg with
  | true =>
    rw [if_pos rfl, if_pos (by rw [S_size]; omega)]
    rw [show (⟨#[45]⟩ : ByteArray) = S [45] from rfl, S_app]
    rfl
  | false => rfl

theorem l1Int_round (k : Nat) (x : Int) (s : List UInt8) (neg : Bool) (h0 : -9223372036854775808 ≤ x) (h1 : x ≤ 9223372036854775807) (hx : s = [] ∨ x ≠ 0) (hl : s.length ≤ 100) :
    spec_l1Int.l0 (k + 2) x (S s) neg = spec_l1Int.l0 k (if x < 0 then -((x.natAbs / 10 : Nat) : Int) else ((x.natAbs / 10 : Nat) : Int)) (S (UInt8.ofNat (48 + x.natAbs % 10) :: s)) neg := by
  have hin : ∀ b : Bool, b = true → spec_l1Int.j1 (k + 1) x (S s) neg b = spec_l1Int.l0 k (if x < 0 then -((x.natAbs / 10 : Nat) : Int) else ((x.natAbs / 10 : Nat) : Int)) (S (UInt8.ofNat (48 + x.natAbs % 10) :: s)) neg := by
    rintro b rfl
    simp only [spec_l1Int.j1]
    rw [if_pos trivial]
    have hm : x.natAbs % 10 < 10 := Nat.mod_lt _ (by omega)
    by_cases hn : x < 0
    · obtain ⟨n, rfl⟩ : ∃ n : Nat, x = -(n : Int) := ⟨x.natAbs, by omega⟩
      have e1 : Int.tmod (-(n : Int)) 10 = -((n % 10 : Nat) : Int) := by rw [Int.neg_tmod, Int.tmod_eq_emod_of_nonneg (by omega)]; rfl
      have e2 : Int.tdiv (-(n : Int)) 10 = -((n / 10 : Nat) : Int) := by rw [Int.neg_tdiv, Int.tdiv_eq_ediv_of_nonneg (by omega)]; rfl
      have e3 : (-(n : Int)).natAbs = n := by omega
      rw [e1, e2, e3]
      rw [e3] at hm
      rw [if_pos hn]
      have e4 : wrap64 (-((n / 10 : Nat) : Int)) = -((n / 10 : Nat) : Int) := w64 (by omega) (by omega)
      rw [e4]
      by_cases hz : n % 10 = 0
      · rw [if_neg (by omega), hz]
        simp only [Option.bind_some]
        have : (48 + -((0 : Nat) : Int)) = 48 + ((0 : Nat) : Int) := by omega
        rw [this, digit_piece 0 (by omega), if_pos (by rw [S_size, S_size]; simp; omega), S_app]
        rfl
      · rw [if_pos (by omega)]
        simp only [Option.bind_some]
        have : wrap64 (-(-((n % 10 : Nat) : Int))) = ((n % 10 : Nat) : Int) := by rw [Int.neg_neg]; exact w64 (by omega) (by omega)
        rw [this, digit_piece (n % 10) (by omega), if_pos (by rw [S_size, S_size]; simp; omega), S_app]
        rfl
    · obtain ⟨n, rfl⟩ : ∃ n : Nat, x = (n : Int) := ⟨x.natAbs, by omega⟩
      have e1 : Int.tmod (n : Int) 10 = ((n % 10 : Nat) : Int) := by rw [Int.tmod_eq_emod_of_nonneg (by omega)]; rfl
      have e2 : Int.tdiv (n : Int) 10 = ((n / 10 : Nat) : Int) := by rw [Int.tdiv_eq_ediv_of_nonneg (by omega)]; rfl
      have e3 : (n : Int).natAbs = n := by omega
      rw [e1, e2, e3]
      rw [if_neg (by omega), if_neg (by omega)]
      simp only [Option.bind_some]
      have e4 : wrap64 ((n / 10 : Nat) : Int) = ((n / 10 : Nat) : Int) := w64 (by omega) (by omega)
      rw [e4, digit_piece (n % 10) (by omega), if_pos (by rw [S_size, S_size]; simp; omega), S_app]
      rfl
  simp only [spec_l1Int.l0]
  by_cases hs : s = []
  · rw [if_pos (by rw [S_toList]; exact hs)]
    exact hin true rfl
  · rw [if_neg (by rw [S_toList]; exact hs)]
    refine hin _ ?_
    rcases hx with hx | hx
    · exact absurd hx hs
    · simpa using hx

theorem decDigits_ne (u : Nat) : Lib.decDigits u ≠ [] := by
  rw [Lib.decDigits]
  split <;> simp

theorem l1Int_loop (m : Nat) : ∀ (k : Nat) (x : Int) (s : List UInt8) (neg : Bool), x.natAbs < 10 ^ m → -9223372036854775808 ≤ x → x ≤ 9223372036854775807 → (s = [] ∨ x ≠ 0) → s.length + m ≤ 100 → 2 * m + 4 ≤ k →
    spec_l1Int.l0 k x (S s) neg = some (S (sgn neg (Lib.decDigits x.natAbs ++ s))) := by
  induction m with
  | zero =>
    intro k x s neg hm h0 h1 hx hl hk
    have hx0 : x = 0 := by omega
    subst hx0
    have hs : s = [] := by rcases hx with h | h; exact h; exact absurd rfl h
    subst hs
    obtain ⟨k, rfl⟩ : ∃ q, k = q + 4 := ⟨k - 4, by omega⟩
    rw [l1Int_round (k + 2) 0 [] neg h0 h1 hx (by simp)]
    simp only [Int.natAbs_zero, Nat.zero_mod, Nat.zero_div, Nat.add_zero]
    rw [if_neg (by omega)]
    rw [show ((0 : Nat) : Int) = 0 from rfl, l1Int_done k _ neg (by simp) (by simp)]
    rw [Lib.decDigits, dif_pos (by omega)]
    simp
  | succ m ih =>
    intro k x s neg hm h0 h1 hx hl hk
    obtain ⟨k, rfl⟩ : ∃ q, k = q + 2 := ⟨k - 2, by omega⟩
    rw [l1Int_round k x s neg h0 h1 hx (by omega)]
    have e : ∀ y : Int, (if x < 0 then -((x.natAbs / 10 : Nat) : Int) else ((x.natAbs / 10 : Nat) : Int)) = y → y.natAbs = x.natAbs / 10 := by
      rintro y rfl
      split <;> omega
    generalize hy : (if x < 0 then -((x.natAbs / 10 : Nat) : Int) else ((x.natAbs / 10 : Nat) : Int)) = y
    have hya := e y hy
    clear hy e
    by_cases h10 : x.natAbs < 10
    · have : y = 0 := by omega
      subst this
      obtain ⟨k, rfl⟩ : ∃ q, k = q + 2 := ⟨k - 2, by omega⟩
      rw [l1Int_done k _ neg (by simp) (by simp; omega)]
      rw [Lib.decDigits, dif_pos h10, Nat.mod_eq_of_lt h10]
      simp
    · rw [ih k y _ neg (by rw [hya]; omega) (by omega) (by omega) (.inr (by omega)) (by simp; omega) (by omega)]
      rw [hya]
      conv => rhs; rw [Lib.decDigits, dif_neg h10]
      simp

theorem l1Int_is (k : Nat) (n : Int) (h0 : -9223372036854775808 ≤ n) (h1 : n ≤ 9223372036854775807) (hk : 50 ≤ k) : spec_l1Int.f k n = some (S (Lib.itoa n)) := by
  unfold spec_l1Int.f
  rw [show (⟨#[]⟩ : ByteArray) = S [] from rfl, l1Int_loop 20 k n [] _ (by omega) h0 h1 (.inl rfl) (by simp) (by omega)]
  simp only [List.append_nil, sgn, Lib.itoa]
  by_cases h : n < 0
  · simp [h]
  · have : n.natAbs = n.toNat := by omega
    simp [h, this]

/-! words -/
theorem l1Words_loop (ws : List (List UInt8)) (sep : List UInt8) (hb : Lib.lens ws + sep.length * ws.length ≤ 9223372036854775807) (hn : ws.length ≤ 9223372036854775806) (d : Nat) : ∀ (k i : Nat), 1 ≤ i → i + d = ws.length → d < k →
    spec_l1Words.l0 k (ws.map S) (S sep) (S (Lib.join (ws.take i) sep)) (i : Int) = some (S (Lib.join ws sep)) := by
  induction d with
  | zero =>
    intro k i hi hd hk
    obtain ⟨k, rfl⟩ : ∃ q, k = q + 1 := ⟨k - 1, by omega⟩
    simp only [spec_l1Words.l0]
    rw [if_neg (by simp; omega), List.take_of_length_le (by omega)]
  | succ d ih =>
    intro k i hi hd hk
    obtain ⟨k, rfl⟩ : ∃ q, k = q + 1 := ⟨k - 1, by omega⟩
    simp only [spec_l1Words.l0]
    have hlt : i < ws.length := by omega
    have hrd : rdOf ByteArray.empty (ws.map S) (i : Int) = S ws[i] := by simp [rdOf, hlt]
    obtain ⟨x, r, rfl⟩ : ∃ x r, ws = x :: r := by cases ws with | nil => simp at hlt | cons x r => exact ⟨x, r, rfl⟩
    obtain ⟨j, rfl⟩ : ∃ j, i = j + 1 := ⟨i - 1, by omega⟩
    have hj : j < r.length := by simpa using hlt
    have hlen : (Lib.join (x :: r) sep).length ≤ 9223372036854775807 := by rw [Lib.join_length]; simp only [List.length_cons, Nat.mul_add] at hb; omega
    have hstep : Lib.join ((x :: r).take (j + 1 + 1)) sep = Lib.join ((x :: r).take (j + 1)) sep ++ sep ++ (x :: r)[j + 1] := by
      rw [List.take_succ_cons, List.take_succ_cons, Lib.join_cons, Lib.join_cons, Lib.joinTail_take_succ sep r j r[j] (by simp [hj])]
      simp
    have hle : (Lib.join ((x :: r).take (j + 1 + 1)) sep).length ≤ 9223372036854775807 := by
      rw [List.take_succ_cons, Lib.join_cons, List.length_append]
      rw [Lib.join_cons, List.length_append] at hlen
      have := Lib.joinTail_take_le sep r (j + 1)
      omega
    rw [hstep] at hle
    simp only [List.length_append] at hle
    rw [if_pos (by simp; omega), if_pos (by omega), if_pos (by rw [S_size, S_size]; omega), if_pos (by omega), hrd, if_pos (by rw [S_app, S_size, S_size, List.length_append]; omega)]
    rw [S_app, S_app, ← hstep, w64 (by omega) (by simp at hn; omega)]
    exact ih k (j + 1 + 1) (by omega) (by omega) (by omega)

theorem l1Words_is (k : Nat) (ws : List (List UInt8)) (sep : List UInt8) (hb : Lib.lens ws + sep.length * ws.length ≤ 9223372036854775807) (hn : ws.length ≤ 9223372036854775806) (hk : ws.length + 1 < k) : spec_l1Words.f k (ws.map S) (S sep) = some (S (Lib.join ws sep)) := by
  unfold spec_l1Words.f
  obtain ⟨k, rfl⟩ : ∃ q, k = q + 1 := ⟨k - 1, by omega⟩
  cases ws with
  | nil =>
    simp [spec_l1Words.l0, Lib.join_nil, S]
  | cons x r =>
    simp only [spec_l1Words.l0]
    rw [if_pos (by simp only [List.map_cons, List.length_cons]; omega), if_neg (by omega), if_pos (by omega)]
    have hrd : rdOf ByteArray.empty ((x :: r).map S) 0 = S x := rfl
    have hx : x.length ≤ 9223372036854775807 := by simp [Lib.lens] at hb; omega
    rw [hrd, show (⟨#[]⟩ : ByteArray) = S [] from rfl, if_pos (by rw [S_size, S_size]; simpa using hx), S_app, w64 (by omega) (by omega)]
    have := l1Words_loop (x :: r) sep hb hn r.length k 1 (by omega) (by simp; omega) (by simp at hk; omega)
    rw [List.take_succ_cons, List.take_zero, Lib.join_one] at this
    simpa using this

def decs (l : List Int) : List (List UInt8) := l.map Lib.itoa
def I64 (n : Int) : Prop := -9223372036854775808 ≤ n ∧ n ≤ 9223372036854775807

theorem lens_decs (l : List Int) (h : ∀ n ∈ l, I64 n) : Lib.lens (decs l) ≤ 21 * l.length := by
  induction l with
  | nil => simp [decs, Lib.lens]
  | cons a l ih =>
    have h1 := Lib.itoa_length_le a (h a (by simp)).1 (h a (by simp)).2
    have h2 := ih (fun n hn => h n (by simp [hn]))
    simp only [decs, Lib.lens, List.map_cons, List.sum_cons, List.length_cons] at h2 ⊢
    omega

theorem l1Ints_loop (l : List Int) (h : ∀ n ∈ l, I64 n) (hn : l.length ≤ 1048576) (d : Nat) : ∀ (k i : Nat), i + d = l.length → d + l.length + 60 < k →
    spec_l1Ints.l0 k l ((decs (l.take i)).map S) (i : Int) = some (S (Lib.join (decs l) [32])) := by
  induction d with
  | zero =>
    intro k i hi hk
    obtain ⟨k, rfl⟩ : ∃ q, k = q + 1 := ⟨k - 1, by omega⟩
    have hl := lens_decs l h
    simp only [spec_l1Ints.l0]
    rw [if_neg (by omega), List.take_of_length_le (by omega), show (⟨#[32]⟩ : ByteArray) = S [32] from rfl, l1Words_is k _ _ (by simp [decs] at hl ⊢; omega) (by simp [decs]; omega) (by simp [decs]; omega)]
    rfl
  | succ d ih =>
    intro k i hi hk
    obtain ⟨k, rfl⟩ : ∃ q, k = q + 1 := ⟨k - 1, by omega⟩
    have hlt : i < l.length := by omega
    have hrd : rd l (i : Int) = l[i] := by simp [rd, hlt]
    have hb := h l[i] (by simp)
    simp only [spec_l1Ints.l0]
    rw [if_pos (by omega), if_pos (by omega), hrd, l1Int_is k _ hb.1 hb.2 (by omega)]
    simp only [Option.bind_some]
    rw [if_pos (by simp [decs]; omega), w64 (by omega) (by omega)]
    have hstep : (decs (l.take i)).map S ++ [S (Lib.itoa l[i])] = (decs (l.take (i + 1))).map S := by
      have e : decs (l.take (i + 1)) = decs (l.take i) ++ [Lib.itoa l[i]] := by
        unfold decs
        rw [List.take_succ_eq_append_getElem hlt, List.map_append]
        rfl
      rw [e, List.map_append]
      rfl
    rw [hstep]
    exact ih k (i + 1) (by omega) (by omega)

theorem l1Ints_is (k : Nat) (l : List Int) (h : ∀ n ∈ l, I64 n) (hn : l.length ≤ 1048576) (hk : 2 * l.length + 60 < k) : spec_l1Ints.f k l = some (S (Lib.join (decs l) [32])) := by
  unfold spec_l1Ints.f
  have := l1Ints_loop l h hn l.length k 0 (by omega) (by omega)
  simpa [decs] using this

end Go.Proofs.YtpljdkancldndaaDoor.TFnExactShowVerdict
