/- The pure statement of FnExactShowVerdict: with enough rounds the law's own function answers true, for every verdict of int64 numbers. -/
import Derived.Test.YtpljdkancldndaaDoorTFnExactShowVerdict
namespace Go.Proofs.YtpljdkancldndaaDoor.TFnExactShowVerdict
open Go.RowKit Go.Proofs.YtpljdkancldndaaDoorW.PrintWords Go.Proofs.YtpljdkancldndaaDoorW.PrintLast Go.Proofs.YtpljdkancldndaaDoor.Hand Go.Proofs.YtpljdkancldndaaDoor.PFnExactShowVerdict

theorem digits_is (n : Int) (h : I64 n) : impl_digits.f n = some (S (Lib.itoa n)) := by
  unfold impl_digits.f
  rw [if_pos ⟨h.1, h.2⟩]
  rfl

theorem S_data (a : List UInt8) : (S a).data.toList = a := by simp [S]
theorem map_S_data (ws : List (List UInt8)) : (ws.map S).map (·.data.toList) = ws := by
  rw [List.map_map]
  have : ((fun x : ByteArray => x.data.toList) ∘ S) = id := by funext a; exact S_data a
  rw [this, List.map_id]

theorem join_le (l : List Int) (h : ∀ n ∈ l, I64 n) : (Lib.join (decs l) [32]).length ≤ 22 * l.length := by
  have hl := lens_decs l h
  cases hd : decs l with
  | nil => simp [Lib.join_nil]
  | cons x r =>
    rw [Lib.join_length]
    rw [hd] at hl
    have : (decs l).length = l.length := by simp [decs]
    rw [hd] at this
    simp at this hl ⊢
    omega

theorem Join_is (ws : List (List UInt8)) (hn : ws.length ≤ 140737488355328) (hj : (Lib.join ws [32]).length ≤ 140737488355328) : strings_Join.f (ws.map S) (⟨#[32]⟩ : ByteArray) = some (S (Lib.join ws [32])) := by
  unfold strings_Join.f
  have e : (⟨#[32]⟩ : ByteArray).data.toList = [32] := rfl
  rw [map_S_data, e, if_pos ⟨by simpa using hn, hj⟩]
  rfl

theorem spaced_loop (l : List Int) (h : ∀ n ∈ l, I64 n) (hn : l.length ≤ 1048576) (d : Nat) : ∀ (k i : Nat), i + d = l.length → d < k →
    impl_spaced.l0 k ((decs (l.take i)).map S) l (l.length : Int) (i : Int) = some (S (Lib.join (decs l) [32])) := by
  induction d with
  | zero =>
    intro k i hi hk
    obtain ⟨k, rfl⟩ : ∃ q, k = q + 1 := ⟨k - 1, by omega⟩
    have hj := join_le l h
    simp only [impl_spaced.l0]
    rw [if_neg (by omega), List.take_of_length_le (by omega), Join_is _ (by simp [decs]; omega) (by omega)]
    rfl
  | succ d ih =>
    intro k i hi hk
    obtain ⟨k, rfl⟩ : ∃ q, k = q + 1 := ⟨k - 1, by omega⟩
    have hlt : i < l.length := by omega
    have hrd : rd l (i : Int) = l[i] := by simp [rd, hlt]
    simp only [impl_spaced.l0]
    rw [if_pos (by omega), if_pos (by omega), if_pos (by omega), hrd, digits_is _ (h _ (by simp))]
    simp only [Option.bind_some]
    rw [if_pos (by simp [decs]; omega), w64 (by omega) (by omega)]
    have hstep : (decs (l.take i)).map S ++ [S (Lib.itoa l[i])] = (decs (l.take (i + 1))).map S := by
      have e : decs (l.take (i + 1)) = decs (l.take i) ++ [Lib.itoa l[i]] := by
        unfold decs
        rw [List.take_succ_eq_append_getElem hlt, List.map_append]
        rfl
      rw [e, List.map_append]
      rfl
    rw [hstep]
    exact ih k (i + 1) (by omega) (by omega)
theorem spaced_is (k : Nat) (l : List Int) (h : ∀ n ∈ l, I64 n) (hn : l.length ≤ 1048576) (hk : l.length < k) : impl_spaced.f k l = some (S (Lib.join (decs l) [32])) := by
  unfold impl_spaced.f
  have := spaced_loop l h hn l.length k 0 (by omega) (by omega)
  simpa [decs] using this


def OkL (x : S39) : Prop := I64 x.f0 ∧ I64 x.f1 ∧ I64 x.f2

/-- A line's text behind its name. -/
def tail (a b c : Int) (f : Bool) : List UInt8 := [32] ++ Lib.join (decs [a, b, c]) [32] ++ (if f = true then [32, 121, 101, 115, 10] else [32, 110, 111, 10])

theorem i3 {a b c : Int} (ha : I64 a) (hb : I64 b) (hc : I64 c) : ∀ n ∈ [a, b, c], I64 n := by
  intro n hn
  simp at hn
  rcases hn with rfl | rfl | rfl <;> assumption

theorem tail_le (a b c : Int) (f : Bool) (ha : I64 a) (hb : I64 b) (hc : I64 c) : (tail a b c f).length ≤ 80 := by
  have := join_le [a, b, c] (i3 ha hb hc)
  simp only [List.length_cons, List.length_nil] at this
  unfold tail
  simp only [List.length_append]
  cases f <;> simp <;> omega

theorem lit (l : List UInt8) : (⟨l.toArray⟩ : ByteArray) = S l := rfl

theorem l18Line_is (k : Nat) (a b c : Int) (f : Bool) (ha : I64 a) (hb : I64 b) (hc : I64 c) (hk : 100 < k) : spec_l18Line.f k a b c f = some (S (tail a b c f)) := by
  have hj := join_le [a, b, c] (i3 ha hb hc)
  simp only [List.length_cons, List.length_nil] at hj
  unfold spec_l18Line.f tail
  rw [l1Ints_is k [a, b, c] (i3 ha hb hc) (by simp) (by simp; omega)]
  simp only [Option.bind_some]
  rw [if_pos (by rw [S_size]; omega), show (⟨#[32]⟩ : ByteArray) = S [32] from rfl, S_app]
  cases f with
  | true =>
    rw [if_pos rfl, if_pos (by rw [S_size, List.length_append]; simp; omega), show (⟨#[32, 121, 101, 115, 10]⟩ : ByteArray) = S [32, 121, 101, 115, 10] from rfl, S_app]
    rfl
  | false =>
    rw [if_neg (by decide), if_pos (by rw [S_size, List.length_append]; simp; omega), show (⟨#[32, 110, 111, 10]⟩ : ByteArray) = S [32, 110, 111, 10] from rfl, S_app]
    rfl

theorem lineText_is (k : Nat) (n : List UInt8) (a b c : Int) (f : Bool) (hn : n.length ≤ 1000) (ha : I64 a) (hb : I64 b) (hc : I64 c) (hk : 100 < k) : impl_lineText.f k (S n) a b c f = some (S (n ++ tail a b c f)) := by
  have hj := join_le [a, b, c] (i3 ha hb hc)
  simp only [List.length_cons, List.length_nil] at hj
  unfold impl_lineText.f tail
  rw [if_pos (by rw [S_size]; omega), spaced_is k [a, b, c] (i3 ha hb hc) (by simp) (by simp; omega)]
  simp only [Option.bind_some]
  rw [show (⟨#[32]⟩ : ByteArray) = S [32] from rfl, S_app, if_pos (by rw [S_size, S_size, List.length_append]; simp; omega), S_app, if_pos (by rw [S_size, List.length_append, List.length_append]; simp; omega)]
  cases f with
  | true =>
    unfold impl_yesNo.f
    rw [if_pos rfl]
    simp only [Option.bind_some]
    rw [S_app, show (⟨#[121, 101, 115]⟩ : ByteArray) = S [121, 101, 115] from rfl, if_pos (by simp only [S_size, List.length_append]; simp; omega), S_app, if_pos (by simp only [S_size, List.length_append]; simp; omega), show (⟨#[10]⟩ : ByteArray) = S [10] from rfl, S_app]
    simp
  | false =>
    unfold impl_yesNo.f
    rw [if_neg (by decide)]
    simp only [Option.bind_some]
    rw [S_app, show (⟨#[110, 111]⟩ : ByteArray) = S [110, 111] from rfl, if_pos (by simp only [S_size, List.length_append]; simp; omega), S_app, if_pos (by simp only [S_size, List.length_append]; simp; omega), show (⟨#[10]⟩ : ByteArray) = S [10] from rfl, S_app]
    simp

/-- The lines of the secrets, from number i on. -/
def linesFrom : Nat → List S39 → List UInt8
  | _, [] => []
  | i, x :: r => [115, 101, 99, 114, 101, 116, 32] ++ Lib.itoa i ++ tail x.f0 x.f1 x.f2 x.f3 ++ linesFrom (i + 1) r
def ending (a b c : Int) (f acc : Bool) : List UInt8 := [106, 111, 105, 110, 116] ++ tail a b c f ++ (if acc = true then [97, 99, 99, 101, 112, 116, 10] else [114, 101, 106, 101, 99, 116, 10])

theorem spec_loop (code : Int) (l : List S39) (h : ∀ x ∈ l, OkL x) (hn : l.length ≤ 1048576) (a b c : Int) (f acc : Bool) (ha : I64 a) (hb : I64 b) (hc : I64 c) (d : Nat) : ∀ (k i : Nat) (s : List UInt8), i + d = l.length → d + 200 < k → s.length ≤ 200 * i →
    spec_ShowVerdict.l0 k (S s) (i : Int) code l a b c f acc = some (S (s ++ linesFrom i (l.drop i) ++ ending a b c f acc)) := by
  induction d with
  | zero =>
    intro k i s hi hk hs
    obtain ⟨k, rfl⟩ : ∃ q, k = q + 1 := ⟨k - 1, by omega⟩
    have ht := tail_le a b c f ha hb hc
    simp only [spec_ShowVerdict.l0]
    rw [if_neg (by omega), if_pos (by rw [S_size]; omega), l18Line_is k a b c f ha hb hc (by omega)]
    simp only [Option.bind_some]
    rw [show (⟨#[106, 111, 105, 110, 116]⟩ : ByteArray) = S [106, 111, 105, 110, 116] from rfl, S_app, if_pos (by simp only [S_size, List.length_append]; simp; omega), S_app, List.drop_of_length_le (by omega)]
    cases acc with
    | true =>
      rw [if_pos rfl, if_pos (by simp only [S_size, List.length_append]; simp; omega), show (⟨#[97, 99, 99, 101, 112, 116, 10]⟩ : ByteArray) = S [97, 99, 99, 101, 112, 116, 10] from rfl, S_app]
      simp [linesFrom, ending]
    | false =>
      rw [if_neg (by decide), if_pos (by simp only [S_size, List.length_append]; simp; omega), show (⟨#[114, 101, 106, 101, 99, 116, 10]⟩ : ByteArray) = S [114, 101, 106, 101, 99, 116, 10] from rfl, S_app]
      simp [linesFrom, ending]
  | succ d ih =>
    intro k i s hi hk hs
    obtain ⟨k, rfl⟩ : ∃ q, k = q + 1 := ⟨k - 1, by omega⟩
    have hlt : i < l.length := by omega
    have hrd : rd_T39 l (i : Int) = l[i] := by simp [rd_T39, hlt]
    obtain ⟨h0, h1, h2⟩ := h l[i] (by simp)
    have ht := tail_le _ _ _ l[i].f3 h0 h1 h2
    have hit := Lib.itoa_length_le (i : Int) (by omega) (by omega)
    simp only [spec_ShowVerdict.l0]
    rw [if_pos (by omega), if_pos (by rw [S_size]; omega), l1Int_is k _ (by omega) (by omega) (by omega)]
    simp only [Option.bind_some]
    rw [show (⟨#[115, 101, 99, 114, 101, 116, 32]⟩ : ByteArray) = S [115, 101, 99, 114, 101, 116, 32] from rfl, S_app, if_pos (by simp only [S_size, List.length_append]; simp; omega), if_pos (by omega), hrd, l18Line_is k _ _ _ _ h0 h1 h2 (by omega)]
    simp only [Option.bind_some]
    rw [S_app, if_pos (by simp only [S_size, List.length_append]; simp; omega), S_app, w64 (by omega) (by omega)]
    have hz := ih k (i + 1) (s ++ [115, 101, 99, 114, 101, 116, 32] ++ Lib.itoa i ++ tail l[i].f0 l[i].f1 l[i].f2 l[i].f3) (by omega) (by omega) (by simp only [List.length_append]; simp; omega)
    rw [show ((i : Int) + 1) = ((i + 1 : Nat) : Int) by omega, hz]
    rw [List.drop_eq_getElem_cons hlt]
    simp [linesFrom]

theorem impl_loop (code : Int) (l : List S39) (h : ∀ x ∈ l, OkL x) (hn : l.length ≤ 1048576) (a b c : Int) (f acc : Bool) (ha : I64 a) (hb : I64 b) (hc : I64 c) (d : Nat) : ∀ (k i : Nat) (s : List UInt8), i + d = l.length → d + 200 < k → s.length ≤ 200 * i →
    impl_ShowVerdict.l0 k (S s) l (l.length : Int) (i : Int) code l a b c f acc = some (S (s ++ linesFrom i (l.drop i) ++ ending a b c f acc)) := by
  induction d with
  | zero =>
    intro k i s hi hk hs
    obtain ⟨k, rfl⟩ : ∃ q, k = q + 1 := ⟨k - 1, by omega⟩
    have ht := tail_le a b c f ha hb hc
    simp only [impl_ShowVerdict.l0]
    rw [if_neg (by omega), show (⟨#[106, 111, 105, 110, 116]⟩ : ByteArray) = S [106, 111, 105, 110, 116] from rfl, lineText_is k _ a b c f (by simp) ha hb hc (by omega)]
    simp only [Option.bind_some]
    rw [if_pos (by simp only [S_size, List.length_append]; simp; omega), S_app, List.drop_of_length_le (by omega)]
    cases acc with
    | true =>
      rw [if_pos rfl, if_pos (by simp only [S_size, List.length_append]; simp; omega), show (⟨#[97, 99, 99, 101, 112, 116, 10]⟩ : ByteArray) = S [97, 99, 99, 101, 112, 116, 10] from rfl, S_app]
      simp [linesFrom, ending]
    | false =>
      rw [if_neg (by decide), if_pos (by simp only [S_size, List.length_append]; simp; omega), show (⟨#[114, 101, 106, 101, 99, 116, 10]⟩ : ByteArray) = S [114, 101, 106, 101, 99, 116, 10] from rfl, S_app]
      simp [linesFrom, ending]
  | succ d ih =>
    intro k i s hi hk hs
    obtain ⟨k, rfl⟩ : ∃ q, k = q + 1 := ⟨k - 1, by omega⟩
    have hlt : i < l.length := by omega
    have hrd : rd_T39 l (i : Int) = l[i] := by simp [rd_T39, hlt]
    obtain ⟨h0, h1, h2⟩ := h l[i] (by simp)
    have ht := tail_le _ _ _ l[i].f3 h0 h1 h2
    have hit := Lib.itoa_length_le (i : Int) (by omega) (by omega)
    simp only [impl_ShowVerdict.l0]
    rw [if_pos (by omega), if_pos (by omega), if_pos (by omega), digits_is _ ⟨by omega, by omega⟩]
    simp only [Option.bind_some]
    rw [if_pos (by rw [S_size]; omega), show (⟨#[115, 101, 99, 114, 101, 116, 32]⟩ : ByteArray) = S [115, 101, 99, 114, 101, 116, 32] from rfl, S_app, hrd, lineText_is k _ _ _ _ _ (by rw [List.length_append]; simp; omega) h0 h1 h2 (by omega)]
    simp only [Option.bind_some]
    rw [if_pos (by simp only [S_size, List.length_append]; simp; omega), S_app, w64 (by omega) (by omega)]
    have hz := ih k (i + 1) (s ++ ([115, 101, 99, 114, 101, 116, 32] ++ Lib.itoa i ++ tail l[i].f0 l[i].f1 l[i].f2 l[i].f3)) (by omega) (by omega) (by simp only [List.length_append]; simp; omega)
    rw [show ((i : Int) + 1) = ((i + 1 : Nat) : Int) by omega, hz]
    rw [List.drop_eq_getElem_cons hlt]
    simp [linesFrom]

def shownV (code : Int) (l : List S39) (a b c : Int) (f acc : Bool) : List UInt8 := if code = 0 then linesFrom 0 l ++ ending a b c f acc else [98, 97, 100, 32] ++ Lib.itoa code ++ [10]

theorem spec_is (k : Nat) (code : Int) (l : List S39) (a b c : Int) (f acc : Bool) (hcode : I64 code) (h : ∀ x ∈ l, OkL x) (hn : l.length ≤ 1048576) (ha : I64 a) (hb : I64 b) (hc : I64 c) (hk : l.length + 200 < k) : spec_ShowVerdict.f k code l a b c f acc = some (S (shownV code l a b c f acc)) := by
  unfold spec_ShowVerdict.f shownV
  by_cases h0 : code = 0
  · rw [if_pos h0, if_pos h0]
    rw [show (⟨#[]⟩ : ByteArray) = S [] from rfl]
    have := spec_loop code l h hn a b c f acc ha hb hc l.length k 0 [] (by omega) hk (by simp)
    simpa using this
  · have hit := Lib.itoa_length_le code hcode.1 hcode.2
    rw [if_neg h0, if_neg h0, l1Int_is k _ hcode.1 hcode.2 (by omega)]
    simp only [Option.bind_some]
    rw [if_pos (by rw [S_size]; omega), show (⟨#[98, 97, 100, 32]⟩ : ByteArray) = S [98, 97, 100, 32] from rfl, S_app, if_pos (by rw [S_size, List.length_append]; simp; omega), show (⟨#[10]⟩ : ByteArray) = S [10] from rfl, S_app]
theorem impl_is (k : Nat) (code : Int) (l : List S39) (a b c : Int) (f acc : Bool) (hcode : I64 code) (h : ∀ x ∈ l, OkL x) (hn : l.length ≤ 1048576) (ha : I64 a) (hb : I64 b) (hc : I64 c) (hk : l.length + 200 < k) : impl_ShowVerdict.f k code l a b c f acc = some (S (shownV code l a b c f acc)) := by
  unfold impl_ShowVerdict.f shownV
  by_cases h0 : code = 0
  · rw [if_pos h0, if_pos h0]
    rw [show (⟨#[]⟩ : ByteArray) = S [] from rfl]
    have := impl_loop code l h hn a b c f acc ha hb hc l.length k 0 [] (by omega) hk (by simp)
    simpa using this
  · have hit := Lib.itoa_length_le code hcode.1 hcode.2
    rw [if_neg h0, if_neg h0, digits_is _ hcode]
    simp only [Option.bind_some]
    rw [if_pos (by rw [S_size]; omega), show (⟨#[98, 97, 100, 32]⟩ : ByteArray) = S [98, 97, 100, 32] from rfl, S_app, if_pos (by rw [S_size, List.length_append]; simp; omega), show (⟨#[10]⟩ : ByteArray) = S [10] from rfl, S_app]

def toL (x : S33) : S39 := ⟨x.f0, x.f1, x.f2, x.f3⟩

theorem toLineS_loop (l : List S33) (hn : l.length ≤ 8796093022208) (d : Nat) : ∀ (k i : Nat), i + d = l.length → d < k →
    laws_toLineS.l0 k l ((l.take i).map toL ++ List.replicate d z39) (i : Int) = some (l.map toL) := by
  induction d with
  | zero =>
    intro k i hi hk
    obtain ⟨k, rfl⟩ : ∃ q, k = q + 1 := ⟨k - 1, by omega⟩
    simp only [laws_toLineS.l0]
    rw [if_neg (by omega), List.take_of_length_le (by omega)]
    simp
  | succ d ih =>
    intro k i hi hk
    obtain ⟨k, rfl⟩ : ∃ q, k = q + 1 := ⟨k - 1, by omega⟩
    have hlt : i < l.length := by omega
    have hrd : rd_T33 l (i : Int) = l[i] := by simp [rd_T33, hlt]
    simp only [laws_toLineS.l0, laws_toLine.f]
    rw [if_pos (by omega), if_pos (by omega)]
    simp only [Option.bind_some]
    rw [if_pos (by simp; omega), hrd, w64 (by omega) (by omega)]
    have hstep : ((l.take i).map toL ++ List.replicate (d + 1) z39).set (i : Int).toNat (⟨l[i].f0, l[i].f1, l[i].f2, l[i].f3⟩ : S39) = (l.take (i + 1)).map toL ++ List.replicate d z39 := by
      rw [List.take_succ_eq_append_getElem hlt, show ((i : Int)).toNat = i from rfl, List.set_append_right _ _ (by simp; omega)]
      rw [show i - ((l.take i).map toL).length = 0 by simp; omega]
      simp only [List.replicate_succ, List.set_cons_zero, List.map_append, List.append_assoc, List.map_cons, List.map_nil, List.singleton_append, toL]
    rw [hstep]
    exact ih k (i + 1) (by omega) (by omega)
theorem toLineS_is (k : Nat) (l : List S33) (hn : l.length ≤ 8796093022208) (hk : l.length < k) : laws_toLineS.f k l = some (l.map toL) := by
  unfold laws_toLineS.f
  rw [if_pos (by omega), if_pos (by omega)]
  have := toLineS_loop l hn l.length k 0 (by omega) (by omega)
  simpa using this

theorem eqLine_is (a b c : Int) (f : Bool) : laws_eqLine.f a b c f a b c f = some true := by
  unfold laws_eqLine.f
  simp
theorem eqLineS_loop (l : List S39) (hn : l.length ≤ 9223372036854775806) (d : Nat) : ∀ (k i : Nat), i + d = l.length → d < k → laws_eqLineS.l0 k l l (i : Int) = some true := by
  induction d with
  | zero =>
    intro k i hi hk
    obtain ⟨k, rfl⟩ : ∃ q, k = q + 1 := ⟨k - 1, by omega⟩
    simp only [laws_eqLineS.l0]
    rw [if_neg (by omega)]
  | succ d ih =>
    intro k i hi hk
    obtain ⟨k, rfl⟩ : ∃ q, k = q + 1 := ⟨k - 1, by omega⟩
    simp only [laws_eqLineS.l0]
    rw [if_pos (by omega), if_pos (by omega), if_pos (by omega), eqLine_is]
    simp only [Option.bind_some, if_true]
    rw [w64 (by omega) (by omega)]
    exact ih k (i + 1) (by omega) (by omega)

theorem law (code : Int) (l : List S33) (a b c : Int) (f acc : Bool) (hcode : I64 code) (h : ∀ x ∈ l, I64 x.f0 ∧ I64 x.f1 ∧ I64 x.f2) (ha : I64 a) (hb : I64 b) (hc : I64 c) (hl : l.length ≤ 9223372036854775807) :
    ∃ k, laws_FnExactShowVerdict.f k code l a b c f acc = some true := by
  refine ⟨l.length + 300, ?_⟩
  unfold laws_FnExactShowVerdict.f laws_szVerdict.f laws_szLineS.f
  rw [w64 (by omega) (by omega)]
  by_cases hbig : 1048576 - (l.length : Int) < 0
  · rw [if_pos hbig]
    simp
  · rw [if_neg hbig]
    simp only [Option.bind_some]
    rw [if_neg hbig]
    simp only [Option.bind_some]
    rw [if_neg hbig]
    have hto : laws_toVerdict.f (l.length + 300) code l a b c f acc = some (code, l.map toL, a, b, c, f, acc) := by
      unfold laws_toVerdict.f laws_toLine.f
      rw [toLineS_is _ l (by omega) (by omega)]
      rfl
    have hml : (l.map toL).length = l.length := by simp
    have hok : ∀ x ∈ l.map toL, OkL x := by
      intro x hx
      obtain ⟨y, hy, rfl⟩ := List.mem_map.1 hx
      exact h y hy
    have heq : laws_eqVerdict.f (l.length + 300) code (l.map toL) a b c f acc code (l.map toL) a b c f acc = some true := by
      unfold laws_eqVerdict.f laws_eqLineS.f
      rw [if_pos rfl, if_pos rfl]
      have hz := eqLineS_loop (l.map toL) (by omega) l.length (l.length + 300) 0 (by omega) (by omega)
      rw [show ((0 : Nat) : Int) = 0 from rfl] at hz
      rw [hz, eqLine_is]
      simp
    rw [hto]
    simp only [Option.bind_some]
    rw [spec_is _ code _ a b c f acc hcode hok (by omega) ha hb hc (by omega)]
    simp only [Option.bind_some]
    rw [impl_is _ code _ a b c f acc hcode hok (by omega) ha hb hc (by omega)]
    simp only [Option.bind_some]
    rw [if_pos trivial, heq]
    simp

end Go.Proofs.YtpljdkancldndaaDoor.TFnExactShowVerdict
