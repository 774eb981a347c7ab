/- The contracts of impl.digits and of strings.Join, out of the shelf's, in the form of the printed ones; the laid table's fact and how it is kept. -/
import Derived.Test.YtpljdkancldndaaDoorShelf
import Derived.Test.YtpljdkancldndaaDoorWWords
import Derived.WalkSmall
namespace Go.Proofs.YtpljdkancldndaaDoor.Hand
open Go.RowKit Go.Proofs.YtpljdkancldndaaDoorW.PrintWords

def TabH (w : World) : Prop := Lib.TabIs Tryd.prog w "internal/strconv.uint64pow10" .u64 Lib.pow10Tab
theorem TabH.below {w w' : World} (h : TabH w) (hb : Below w.heap.size w w') : TabH w' := by
  unfold TabH Lib.TabIs at h ⊢
  have h0 := h
  unfold World.var? at h0
  cases hg : Tryd.prog.globalNamed "internal/strconv.uint64pow10" with
  | none => rw [hg] at h0; simp at h0
  | some g =>
    refine var?_below hb hg ?_ h
    rw [hg] at h0
    simp only [Option.bind_some] at h0
    rcases Nat.lt_or_ge g w.heap.size with hlt | hge
    · exact hlt
    · rw [Array.getElem?_eq_none hge] at h0
      simp at h0

theorem below_grow (w : World) (n : Nat) (os : Array Obj) : Below w.heap.size w (Sort.grow (w.drewN n) os) :=
  ⟨rfl, rfl, rfl, by simp, fun k hk => by simp only [Sort.grow, World.heap_drewN]; rw [Array.getElem?_append_left hk]⟩

def impl_digits.f (a0 : Int) : Option ByteArray := if -9223372036854775808 ≤ a0 ∧ a0 ≤ 9223372036854775807 then some ⟨(Lib.itoa a0).toArray⟩ else none
theorem impl_digits.calls (a0 : Int) (r : ByteArray) (w : World) (hT : TabH w) (h : impl_digits.f a0 = some r) :
    Calls Tryd.prog 29 #[.int .i64 a0] w fun e w' => e = .returned (.string r) ∧ Below w.heap.size w w' := by
  unfold impl_digits.f at h
  split at h
  · rename_i hr
    obtain rfl := Option.some.inj h
    obtain ⟨h0, h1⟩ := hr
    have HT := Aside0.mk hT
    clear hT
    go_enter Tryd.func29, Tryd.ntmps29
    go_wp2_with (go_at_call 47; refine (Tryd.strconv_FormatInt_10 a0 h0 h1 _ HT.out).mono ?_; rintro e w' ⟨rfl, k, os, rfl⟩)
    go_ret
    exact ⟨rfl, below_grow _ _ _⟩
  · cases h

def strings_Join.f (l0 : List ByteArray) (a1 : ByteArray) : Option ByteArray :=
  if l0.length ≤ 140737488355328 ∧ (Lib.join (l0.map (·.data.toList)) a1.data.toList).length ≤ 140737488355328 then some ⟨(Lib.join (l0.map (·.data.toList)) a1.data.toList).toArray⟩ else none
theorem strings_Join.calls (A0 : Option Addr) (c0 : Nat) (l0 : List ByteArray) (a1 : ByteArray) (r : ByteArray) (w : World) (hr0 : Kd.C Kd.string w A0 l0.length l0) (hc0 : l0.length ≤ c0) (h : strings_Join.f l0 a1 = some r) :
    Calls Tryd.prog 46 #[.slice A0 l0.length c0, .string a1] w fun e w' => e = .returned (.string r) ∧ Below w.heap.size w w' := by
  unfold strings_Join.f at h
  split at h
  · rename_i hl
    obtain rfl := Option.some.inj h
    rcases Nat.eq_zero_or_pos l0.length with hz | hp
    · obtain rfl : l0 = [] := List.eq_nil_of_length_eq_zero hz
      refine (Tryd.strings_Join_none A0 c0 a1 w).mono ?_
      rintro e w' ⟨rfl, rfl⟩
      exact ⟨by simp [Lib.join], Below.refl _ _⟩
    · have hcell : ∀ j : Nat, j < l0.length → ∃ ad, A0 = some ad ∧ w.cell? (ad.add j) = some (.string (l0.getD j ByteArray.empty)) := fun j hj => by
        obtain ⟨ad, e, hx⟩ := Kd.at_string hr0 (j : Int) (by omega) (by omega)
        exact ⟨ad, e, by simpa [rdOf] using hx⟩
      obtain ⟨ad, rfl, h0⟩ := hcell 0 hp
      obtain ⟨bk, o, sp⟩ := ad
      have hsp : sp = none := by
        cases sp with
        | none => rfl
        | some s => simp [Addr.add, World.cell?] at h0; split at h0 <;> cases h0
      subst hsp
      refine (Tryd.strings_Join bk o c0 l0 a1 w ?_ ?_ hl.1 hc0 hl.2).mono ?_
      · intro j x hx
        have hj : j < l0.length := (List.getElem?_eq_some_iff.1 hx).1
        obtain ⟨ad, e, hc⟩ := hcell j hj
        injection e with e
        subst e
        rw [add_at] at hc
        rw [hc]
        simp [List.getD_eq_getElem?_getD, hx]
      · exact World.block_lt_of_cell? w _ h0
      · rintro e w' ⟨rfl, hb⟩
        exact ⟨rfl, hb⟩
  · cases h

end Go.Proofs.YtpljdkancldndaaDoor.Hand
