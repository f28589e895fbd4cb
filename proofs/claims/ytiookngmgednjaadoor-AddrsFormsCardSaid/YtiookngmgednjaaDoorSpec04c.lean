/- Plain law of chapter 04: addresses of sixteen bytes, over lists of bytes. -/
import Derived.Test.YtiookngmgednjaaDoorAd2
import Derived.Test.YtiookngmgednjaaDoorSpec04b
import Derived.Lib.ParseIntB
namespace Go.Proofs.YtiookngmgednjaaDoor
open Go.Lib Go.Proofs.Foot

/-- A number from 0 to 255 as it is told: no noughts ahead. -/
def octB (l : List UInt8) : Option Nat := if l ≠ [] ∧ (∀ c ∈ l, digB c = true) ∧ digV 0 l ≤ 255 ∧ (l.length ≤ 1 ∨ l.head? ≠ some 48) then some (digV 0 l) else none
def octAcc : List UInt8 → List (List UInt8) → Option (List UInt8)
  | out, [] => some out
  | out, p :: ps => match octB p with
    | some n => octAcc (out ++ [UInt8.ofNat n]) ps
    | none => none
/-- Four numbers with points between them. -/
def fourP (l : List UInt8) : Option (List UInt8) := if (cutAt 46 l).length = 4 then octAcc [] (cutAt 46 l) else none
/-- A piece of one to four digits. -/
def pieceP (l : List UInt8) : Option (List UInt8) := match cntB 16 l with
  | some n => if 1 ≤ l.length ∧ l.length ≤ 4 then some [UInt8.ofNat (n / 256), UInt8.ofNat n] else none
  | none => none
def pieceAcc (e : Bool) : List UInt8 → List (List UInt8) → Option (List UInt8)
  | out, [] => some out
  | out, [p] => match pieceP p with
    | some b => some (out ++ b)
    | none => if e = true then (fourP p).map (out ++ ·) else none
  | out, p :: q :: ps => match pieceP p with
    | some b => pieceAcc e (out ++ b) (q :: ps)
    | none => none
/-- The pieces of a text; of nothing none. -/
def takeP (e : Bool) (l : List UInt8) : Option (List UInt8) := if l = [] then some [] else pieceAcc e [] (cutAt 58 l)
def sixOf (f : Bool) (a b : Option (List UInt8)) : Bool × List UInt8 × Nat := match a, b with
  | some x, some y => if (f = false ∧ x.length + y.length = 16) ∨ (f = true ∧ x.length + y.length ≤ 14) then (true, x ++ noughts (16 - x.length - y.length) ++ y, 0) else (false, noughts 16, 5)
  | _, _ => (false, noughts 16, 5)
/-- What Six answers: the address, and the error. -/
def sixS (l : List UInt8) : Bool × List UInt8 × Nat := sixOf (Lib.cut l [58, 58]).2.2 (takeP (!(Lib.cut l [58, 58]).2.2) (Lib.cut l [58, 58]).1) (takeP true (Lib.cut l [58, 58]).2.1)

theorem octAcc_append (x : List UInt8) (ps : List (List UInt8)) : ∀ out, octAcc (x ++ out) ps = (octAcc out ps).map (x ++ ·) := by
  induction ps with
  | nil => intro out; rfl
  | cons p ps ih =>
    intro out
    rw [octAcc, octAcc]
    cases octB p with
    | none => rfl
    | some n => show octAcc (x ++ out ++ [_]) ps = _; rw [List.append_assoc, ih]
theorem digV_ge (l : List UInt8) : ∀ acc, acc ≤ digV acc l := by
  induction l with
  | nil => intro acc; exact Nat.le_refl _
  | cons c l ih =>
    intro acc
    rw [digV_cons]
    have := ih (acc * 10 + (c.toNat - 48))
    omega
theorem puM_yes (l : List UInt8) (hd : ∀ c ∈ l, digB c = true) : ∀ acc, digV acc l ≤ 255 → Lib.parseUintM 255 acc l = .ok (digV acc l) := by
  induction l with
  | nil => intro acc _; rfl
  | cons c l ih =>
    intro acc h
    have hc := (digB_iff _).1 (hd c (by simp))
    rw [digV_cons] at h
    have hg := digV_ge l (acc * 10 + (c.toNat - 48))
    rw [Lib.parseUintM, if_pos hc, if_neg (by omega), if_neg (by omega), digV_cons]
    exact ih (fun d hm => hd d (List.mem_cons_of_mem _ hm)) _ h
theorem puM_ok (l : List UInt8) : ∀ acc n, Lib.parseUintM 255 acc l = .ok n → (∀ c ∈ l, digB c = true) ∧ n = digV acc l := by
  induction l with
  | nil => intro acc n h; rw [Lib.parseUintM] at h; injection h with h; exact ⟨by simp, h.symm⟩
  | cons c l ih =>
    intro acc n h
    rw [Lib.parseUintM] at h
    split at h
    · rename_i hc
      split at h
      · cases h
      · split at h
        · cases h
        · obtain ⟨h1, h2⟩ := ih _ _ h
          refine ⟨fun d hd => ?_, by rw [digV_cons]; exact h2⟩
          rcases List.mem_cons.1 hd with rfl | hd
          · exact (digB_iff _).2 hc
          · exact h1 d hd
    · cases h
theorem hx_dig {d : Nat} (h : d < 10) : hx d = UInt8.ofNat (48 + d) := by
  have : ∀ d < 10, hx d = UInt8.ofNat (48 + d) := by decide +kernel
  exact this d h
theorem hx_of {c : UInt8} (h : 48 ≤ c.toNat ∧ c.toNat ≤ 57) : hx (c.toNat - 48) = c := by
  rw [hx_dig (by omega)]
  exact UInt8.toNat.inj (by rw [UInt8.toNat_ofNat', Nat.mod_eq_of_lt (by omega)]; omega)
theorem baseD1 {n : Nat} (h : n < 10) : baseD 10 n = [hx n] := by rw [baseD, dif_pos (.inl h)]
theorem baseD2 {n : Nat} (h1 : 10 ≤ n) (h2 : n < 100) : baseD 10 n = [hx (n / 10), hx (n % 10)] := by rw [baseD, dif_neg (by omega), baseD1 (by omega)]; rfl
theorem baseD3 {n : Nat} (h1 : 100 ≤ n) (h2 : n < 1000) : baseD 10 n = [hx (n / 10 / 10), hx (n / 10 % 10), hx (n % 10)] := by rw [baseD, dif_neg (by omega), baseD2 (by omega) (by omega)]; rfl
theorem hx_ne48 {d : Nat} (h1 : 1 ≤ d) (h2 : d < 10) : hx d ≠ 48 := by
  have : ∀ d < 10, 1 ≤ d → hx d ≠ 48 := by decide +kernel
  exact this d h2 h1
/-- A number's digits have no nought ahead. -/
theorem base_canon {n : Nat} (h : n ≤ 255) : (baseD 10 n).length ≤ 1 ∨ (baseD 10 n).head? ≠ some 48 := by
  by_cases h1 : n < 10
  · left; rw [baseD1 h1]; exact Nat.le_refl _
  · right
    by_cases h2 : n < 100
    · rw [baseD2 (by omega) h2]
      intro e; injection e with e; exact hx_ne48 (by omega) (by omega) e
    · rw [baseD3 (by omega) (by omega)]
      intro e; injection e with e; exact hx_ne48 (by omega) (by omega) e
theorem canon_base {l : List UInt8} (hne : l ≠ []) (hd : ∀ c ∈ l, digB c = true) (hv : digV 0 l ≤ 255) (hc : l.length ≤ 1 ∨ l.head? ≠ some 48) : baseD 10 (digV 0 l) = l := by
  match l, hne with
  | [a], _ =>
    have ha := (digB_iff _).1 (hd a (by simp))
    rw [digV_cons, digV_nil, baseD1 (by omega), show 0 * 10 + (a.toNat - 48) = a.toNat - 48 from by omega, hx_of ha]
  | [a, b], _ =>
    have ha := (digB_iff _).1 (hd a (by simp))
    have hb := (digB_iff _).1 (hd b (by simp))
    have h48 : a ≠ 48 := fun e => (hc.resolve_left (by simp)) (by rw [e]; rfl)
    have ha1 : a.toNat ≠ 48 := fun e => h48 (UInt8.toNat.inj e)
    rw [digV_cons, digV_cons, digV_nil, baseD2 (by omega) (by omega), show ((0 * 10 + (a.toNat - 48)) * 10 + (b.toNat - 48)) / 10 = a.toNat - 48 from by omega, show ((0 * 10 + (a.toNat - 48)) * 10 + (b.toNat - 48)) % 10 = b.toNat - 48 from by omega, hx_of ha, hx_of hb]
  | [a, b, c], _ =>
    have ha := (digB_iff _).1 (hd a (by simp))
    have hb := (digB_iff _).1 (hd b (by simp))
    have hc' := (digB_iff _).1 (hd c (by simp))
    have h48 : a ≠ 48 := fun e => (hc.resolve_left (by simp)) (by rw [e]; rfl)
    have ha1 : a.toNat ≠ 48 := fun e => h48 (UInt8.toNat.inj e)
    rw [digV_cons, digV_cons, digV_cons, digV_nil, baseD3 (by omega) (by omega), show (((0 * 10 + (a.toNat - 48)) * 10 + (b.toNat - 48)) * 10 + (c.toNat - 48)) / 10 / 10 = a.toNat - 48 from by omega, show (((0 * 10 + (a.toNat - 48)) * 10 + (b.toNat - 48)) * 10 + (c.toNat - 48)) / 10 % 10 = b.toNat - 48 from by omega, show (((0 * 10 + (a.toNat - 48)) * 10 + (b.toNat - 48)) * 10 + (c.toNat - 48)) % 10 = c.toNat - 48 from by omega, hx_of ha, hx_of hb, hx_of hc']
  | a :: b :: c :: d :: r, _ =>
    have ha := (digB_iff _).1 (hd a (by simp))
    have h48 : a ≠ 48 := fun e => (hc.resolve_left (by simp)) (by rw [e]; rfl)
    have ha1 : a.toNat ≠ 48 := fun e => h48 (UInt8.toNat.inj e)
    rw [digV_cons, digV_cons, digV_cons, digV_cons] at hv
    have := digV_ge r ((((0 * 10 + (a.toNat - 48)) * 10 + (b.toNat - 48)) * 10 + (c.toNat - 48)) * 10 + (d.toNat - 48))
    omega
theorem numEnd_ways (x : Lib.NumEnd Nat) : (∃ n, x = .ok n) ∨ x = Lib.parseMag [] ∨ x = .range := by
  cases x
  · exact .inl ⟨_, rfl⟩
  · exact .inr (.inl rfl)
  · exact .inr (.inr rfl)
theorem octB_some {l : List UInt8} {n : Nat} (h : octB l = some n) : n ≤ 255 ∧ Lib.parseUintB 8 l = .ok n ∧ baseD 10 n = l := by
  unfold octB at h
  split at h
  · rename_i hh
    obtain ⟨h1, h2, h3, h4⟩ := hh
    injection h with h
    subst h
    refine ⟨h3, ?_, canon_base h1 h2 h3 h4⟩
    unfold Lib.parseUintB
    rw [if_neg h1]
    exact puM_yes l h2 0 h3
  · cases h
theorem puM_le (l : List UInt8) : ∀ acc n, acc ≤ 255 → Lib.parseUintM 255 acc l = .ok n → n ≤ 255 := by
  induction l with
  | nil => intro acc n ha h; rw [Lib.parseUintM] at h; injection h with h; omega
  | cons c l ih =>
    intro acc n ha h
    rw [Lib.parseUintM] at h
    split at h
    · split at h
      · cases h
      · split at h
        · cases h
        · exact ih _ _ (by omega) h
    · cases h
theorem octB_none {l : List UInt8} (h : octB l = none) : (∃ n, n ≤ 255 ∧ Lib.parseUintB 8 l = .ok n ∧ baseD 10 n ≠ l) ∨ Lib.parseUintB 8 l = Lib.parseMag [] ∨ Lib.parseUintB 8 l = .range := by
  rcases numEnd_ways (Lib.parseUintB 8 l) with ⟨n, hp⟩ | hp | hp
  · left
    unfold Lib.parseUintB at hp
    split at hp
    · cases hp
    · rename_i hne
      obtain ⟨h1, h2⟩ := puM_ok l 0 n hp
      refine ⟨n, ?_, by unfold Lib.parseUintB; rw [if_neg hne]; exact hp, fun e => ?_⟩
      · have := puM_le l 0 n (by omega) hp
        exact this
      · have hn : n ≤ 255 := puM_le l 0 n (by omega) hp
        unfold octB at h
        rw [if_pos ⟨hne, h1, by rw [← h2]; exact hn, by rw [← e]; exact base_canon hn⟩] at h
        cases h
  · exact .inr (.inl hp)
  · exact .inr (.inr hp)
end Go.Proofs.YtiookngmgednjaaDoor
