/- Plain law of chapter 04's outright laws: an address is read from its text. -/
import Derived.Test.YtiookngmgednjaaDoorSd4
import Derived.Test.YtiookngmgednjaaDoorAd5
import Derived.Test.YtiookngmgednjaaDoorSpec01e
namespace Go.Proofs.YtiookngmgednjaaDoor
open Go.Lib Go.Proofs.Foot

/-- How many runs of two colons stand in a text. -/
def twos : List UInt8 → Nat
  | [] => 0
  | a :: r => (if a = 58 ∧ r.head? = some 58 then 1 else 0) + twos r
theorem twos_cons (a : UInt8) (r : List UInt8) : twos (a :: r) = (if a = 58 ∧ r.head? = some 58 then 1 else 0) + twos r := rfl
theorem twos_free {p : List UInt8} (h : (58 : UInt8) ∉ p) (t : List UInt8) : twos (p ++ t) = twos t := by
  induction p with
  | nil => rfl
  | cons c p ih =>
    rw [List.cons_append, twos_cons, if_neg (fun e => h (by rw [e.1]; exact List.mem_cons_self)), Nat.zero_add, ih (fun hm => h (List.mem_cons_of_mem _ hm))]
theorem pre_two (a : UInt8) (r : List UInt8) : [58, 58].isPrefixOf (a :: r) = decide (a = 58 ∧ r.head? = some 58) := by
  cases r with
  | nil => simp [List.isPrefixOf]
  | cons b r =>
    simp only [List.isPrefixOf, List.head?_cons, Option.some.injEq, Bool.and_true]
    rw [Bool.eq_iff_iff]
    simp only [Bool.and_eq_true, beq_iff_eq, decide_eq_true_eq]
    constructor
    · rintro ⟨rfl, rfl⟩; exact ⟨rfl, rfl⟩
    · rintro ⟨rfl, rfl⟩; exact ⟨rfl, rfl⟩
theorem index_two_none {l : List UInt8} (h : twos l = 0) : Lib.index l [58, 58] = -1 := by
  induction l with
  | nil => rfl
  | cons a r ih =>
    rw [twos_cons] at h
    have h1 : ¬ (a = 58 ∧ r.head? = some 58) := fun e => by rw [if_pos e] at h; omega
    have h2 : twos r = 0 := by omega
    rw [Lib.index, pre_two, if_neg (by simpa using h1), ih h2]; rfl
theorem index_two_at {l : List UInt8} (h : twos l = 0) (hl : l.getLast? ≠ some 58) (r : List UInt8) : Lib.index (l ++ 58 :: 58 :: r) [58, 58] = l.length := by
  induction l with
  | nil => rw [List.nil_append, Lib.index, pre_two, if_pos (by simp)]; rfl
  | cons a t ih =>
    rw [twos_cons] at h
    have h1 : ¬ (a = 58 ∧ t.head? = some 58) := fun e => by rw [if_pos e] at h; omega
    have h2 : twos t = 0 := by omega
    have h3 : ¬ (a = 58 ∧ (t ++ 58 :: 58 :: r).head? = some 58) := by
      rintro ⟨rfl, e⟩
      cases t with
      | nil => exact hl rfl
      | cons b t => exact h1 ⟨rfl, e⟩
    have h4 : t.getLast? ≠ some 58 := by
      intro e
      cases t with
      | nil => cases e
      | cons b t => rw [List.getLast?_cons_cons] at hl; exact hl e
    rw [List.cons_append, Lib.index, pre_two, if_neg (by simpa using h3), ih h2 h4]
    rw [if_neg (by rw [beq_iff_eq]; omega)]
    rw [List.length_cons]; omega
/-- Parts that are not empty and have no colon. -/
def Good4 (ps : List (List UInt8)) : Prop := ∀ p ∈ ps, p ≠ [] ∧ (58 : UInt8) ∉ p
theorem Good4.tail {p : List UInt8} {ps : List (List UInt8)} (h : Good4 (p :: ps)) : Good4 ps := fun q hq => h q (List.mem_cons_of_mem _ hq)
theorem Good4.take {ps : List (List UInt8)} (h : Good4 ps) (k : Nat) : Good4 (ps.take k) := fun q hq => h q (List.mem_of_mem_take hq)
theorem Good4.drop {ps : List (List UInt8)} (h : Good4 ps) (k : Nat) : Good4 (ps.drop k) := fun q hq => h q (List.mem_of_mem_drop hq)
theorem join_more (p q : List UInt8) (ps : List (List UInt8)) (a : UInt8) : Lib.join (p :: q :: ps) [a] = p ++ a :: Lib.join (q :: ps) [a] := by
  rw [Lib.join_cons, Lib.join_cons]; simp [Lib.joinTail]
theorem join_head {p : List UInt8} (ps : List (List UInt8)) (a : UInt8) (hp : p ≠ []) : (Lib.join (p :: ps) [a]).head? = p.head? := by
  rw [Lib.join_cons]
  cases p with
  | nil => exact absurd rfl hp
  | cons c p => rfl
theorem twos_join {ps : List (List UInt8)} (h : Good4 ps) : twos (Lib.join ps [58]) = 0 := by
  induction ps with
  | nil => rfl
  | cons p ps ih =>
    cases ps with
    | nil => rw [Lib.join_one, ← List.append_nil p, twos_free (h p List.mem_cons_self).2]; rfl
    | cons q ps =>
      rw [join_more, twos_free (h p List.mem_cons_self).2, twos_cons, ih h.tail, if_neg]
      rintro ⟨_, e⟩
      have hq := h q (List.mem_cons_of_mem _ List.mem_cons_self)
      rw [join_head ps 58 hq.1] at e
      exact hq.2 (List.mem_of_mem_head? e)
theorem join_last {ps : List (List UInt8)} (h : Good4 ps) : (Lib.join ps [58]).getLast? ≠ some 58 := by
  induction ps with
  | nil => intro e; cases e
  | cons p ps ih =>
    have hp := h p List.mem_cons_self
    cases ps with
    | nil => rw [Lib.join_one]; exact fun e => hp.2 (List.mem_of_getLast? e)
    | cons q ps =>
      rw [join_more, List.getLast?_append]
      have hne : Lib.join (q :: ps) [58] ≠ [] := by
        intro e
        have hq := h q (List.mem_cons_of_mem _ List.mem_cons_self)
        have := join_head ps 58 hq.1
        rw [e] at this
        exact hq.1 (List.head?_eq_none_iff.1 this.symm)
      have e2 : (58 :: Lib.join (q :: ps) [58]).getLast? = (Lib.join (q :: ps) [58]).getLast? := by
        cases hj : Lib.join (q :: ps) [58] with
        | nil => exact absurd hj hne
        | cons c r => rw [List.getLast?_cons_cons]
      rw [e2]
      cases hl : (Lib.join (q :: ps) [58]).getLast? with
      | none => exact absurd (List.getLast?_eq_none_iff.1 hl) hne
      | some x => rw [Option.some_or]; rw [← hl]; exact ih h.tail
theorem cutAt_join {a : UInt8} {ps : List (List UInt8)} (h : ∀ p ∈ ps, a ∉ p) (hne : ps ≠ []) : cutAt a (Lib.join ps [a]) = ps := by
  induction ps with
  | nil => exact absurd rfl hne
  | cons p ps ih =>
    cases ps with
    | nil => rw [Lib.join_one, cutAt_free (h p List.mem_cons_self)]
    | cons q ps => rw [join_more, cutAt_at (h p List.mem_cons_self), ih (fun x hx => h x (List.mem_cons_of_mem _ hx)) (by simp)]
theorem Good4.free {ps : List (List UInt8)} (h : Good4 ps) : ∀ p ∈ ps, (58 : UInt8) ∉ p := fun p hp => (h p hp).2
theorem join_ne {ps : List (List UInt8)} (h : Good4 ps) (hne : ps ≠ []) : Lib.join ps [58] ≠ [] := by
  cases ps with
  | nil => exact absurd rfl hne
  | cons p ps =>
    have hp := h p List.mem_cons_self
    intro e
    have := join_head ps 58 hp.1
    rw [e] at this
    exact hp.1 (List.head?_eq_none_iff.1 this.symm)
theorem takeP_join {e : Bool} {ps : List (List UInt8)} (h : Good4 ps) : takeP e (Lib.join ps [58]) = pieceAcc e [] ps := by
  cases ps with
  | nil => rfl
  | cons p ps => unfold takeP; rw [if_neg (join_ne h (by simp)), cutAt_join h.free (by simp)]
theorem pieceAcc_all {e : Bool} {f : List UInt8 → List UInt8} : ∀ {ps : List (List UInt8)} {out : List UInt8}, (∀ p ∈ ps, pieceP p = some (f p)) → pieceAcc e out ps = some (out ++ ps.flatMap f)
  | [], out, _ => by rw [pieceAcc, List.flatMap_nil, List.append_nil]
  | [p], out, h => by rw [pieceAcc, h p List.mem_cons_self]; simp
  | p :: q :: ps, out, h => by
    rw [pieceAcc, h p List.mem_cons_self]
    show pieceAcc e (out ++ f p) (q :: ps) = _
    rw [pieceAcc_all (fun x hx => h x (List.mem_cons_of_mem _ hx)), List.flatMap_cons (x := p), List.append_assoc]
theorem sixS_all {ps : List (List UInt8)} {f : List UInt8 → List UInt8} (h : Good4 ps) (hf : ∀ p ∈ ps, pieceP p = some (f p)) (hl : (ps.flatMap f).length = 16) : sixS (Lib.join ps [58]) = (true, ps.flatMap f, 0) := by
  unfold sixS
  rw [show Lib.cut (Lib.join ps [58]) [58, 58] = (Lib.join ps [58], [], false) from by unfold Lib.cut; rw [index_two_none (twos_join h), if_neg (by decide)]]
  show sixOf false (takeP true (Lib.join ps [58])) (takeP true []) = _
  rw [takeP_join h, pieceAcc_all hf, List.nil_append]
  show sixOf false (some (ps.flatMap f)) (some []) = _
  rw [sixOf_some, if_pos (.inl ⟨rfl, by rw [hl]; rfl⟩), hl]
  simp [noughts]
theorem sixS_run {ps qs : List (List UInt8)} {f : List UInt8 → List UInt8} (h : Good4 ps) (hq : Good4 qs) (hf : ∀ p ∈ ps, pieceP p = some (f p)) (hg : ∀ p ∈ qs, pieceP p = some (f p)) (hl : (ps.flatMap f).length + (qs.flatMap f).length ≤ 14) :
    sixS (Lib.join ps [58] ++ [58, 58] ++ Lib.join qs [58]) = (true, ps.flatMap f ++ noughts (16 - (ps.flatMap f).length - (qs.flatMap f).length) ++ qs.flatMap f, 0) := by
  have e : Lib.join ps [58] ++ [58, 58] ++ Lib.join qs [58] = Lib.join ps [58] ++ 58 :: 58 :: Lib.join qs [58] := by simp
  have hi := index_two_at (twos_join h) (join_last h) (Lib.join qs [58])
  rw [e]
  unfold sixS
  rw [show Lib.cut (Lib.join ps [58] ++ 58 :: 58 :: Lib.join qs [58]) [58, 58] = (Lib.join ps [58], Lib.join qs [58], true) from by
    unfold Lib.cut
    rw [hi, if_pos (by omega)]
    simp]
  show sixOf true (takeP false (Lib.join ps [58])) (takeP true (Lib.join qs [58])) = _
  rw [takeP_join h, takeP_join hq, pieceAcc_all hf, pieceAcc_all hg, List.nil_append, List.nil_append, sixOf_some, if_pos (.inr ⟨rfl, hl⟩)]
-- digits by a base
theorem hx_facts : ∀ d < 16, hexI (hx d) = d ∧ hx d ≠ 58 ∧ hx d ≠ 46 ∧ (hx d = 48 → d = 0) := by decide +kernel
theorem baseD_ne (b n : Nat) : baseD b n ≠ [] := by
  rw [baseD]; split <;> simp
theorem baseD_all {b : Nat} (hb : 2 ≤ b) (hb2 : b ≤ 16) (n : Nat) : ∀ c ∈ baseD b n, ∃ d < b, c = hx d := by
  induction n using Nat.strongRecOn with
  | _ n ih =>
    intro c hc
    by_cases h : n < b
    · rw [baseD, dif_pos (.inl h)] at hc
      exact ⟨n, h, by simpa using hc⟩
    · rw [baseD, dif_neg (by omega)] at hc
      rcases List.mem_append.1 hc with hc | hc
      · exact ih _ (Nat.div_lt_self (by omega) (by omega)) c hc
      · exact ⟨n % b, Nat.mod_lt _ (by omega), by simpa using hc⟩
theorem baseD_val {b : Nat} (hb : 2 ≤ b) (hb2 : b ≤ 16) (n : Nat) : valB b 0 (baseD b n) = n := by
  induction n using Nat.strongRecOn with
  | _ n ih =>
    by_cases h : n < b
    · rw [baseD, dif_pos (.inl h), valB_cons, valB_nil, (hx_facts n (by omega)).1]; simp
    · have hm := Nat.mod_lt n (show 0 < b by omega)
      rw [baseD, dif_neg (by omega), valB_append, ih _ (Nat.div_lt_self (by omega) (by omega)), valB_cons, valB_nil, (hx_facts (n % b) (by omega)).1]
      have := Nat.div_add_mod n b
      rw [Nat.mul_comm] at this
      simp; omega
theorem baseD_ok {b : Nat} (hb : 2 ≤ b) (hb2 : b ≤ 16) (n : Nat) : (baseD b n).all (okB b) = true := by
  rw [List.all_eq_true]
  intro c hc
  obtain ⟨d, hd, rfl⟩ := baseD_all hb hb2 n c hc
  unfold okB
  rw [(hx_facts d (by omega)).1]
  simp; omega
theorem baseD_cnt {b : Nat} (hb : 2 ≤ b) (hb2 : b ≤ 16) (n : Nat) (hn : n ≤ 4294967296) : cntB b (baseD b n) = some n := by
  unfold cntB; rw [if_pos (baseD_ok hb hb2 n), baseD_val hb hb2, Nat.min_eq_right hn]
theorem baseD_free {b : Nat} (hb : 2 ≤ b) (hb2 : b ≤ 16) (n : Nat) : (58 : UInt8) ∉ baseD b n ∧ (46 : UInt8) ∉ baseD b n := by
  constructor
  all_goals
    intro hc
    obtain ⟨d, hd, e⟩ := baseD_all hb hb2 n _ hc
    have := hx_facts d (by omega)
    simp_all
theorem baseD_len16 {n : Nat} (h : n < 65536) : 1 ≤ (baseD 16 n).length ∧ (baseD 16 n).length ≤ 4 := by
  have l1 : ∀ m < 16, (baseD 16 m).length = 1 := fun m hm => by rw [baseD, dif_pos (.inl hm)]; rfl
  have l2 : ∀ m < 256, (baseD 16 m).length ≤ 2 := fun m hm => by
    by_cases h : m < 16
    · rw [l1 m h]; omega
    · rw [baseD, dif_neg (by omega), List.length_append, l1 _ (by omega)]; exact Nat.le_refl _
  have l3 : ∀ m < 4096, (baseD 16 m).length ≤ 3 := fun m hm => by
    by_cases h : m < 16
    · rw [l1 m h]; omega
    · have := l2 (m / 16) (by omega)
      rw [baseD, dif_neg (by omega), List.length_append]; simp; omega
  refine ⟨by have := baseD_ne 16 n; cases hl : baseD 16 n with | nil => exact absurd hl this | cons a r => simp, ?_⟩
  by_cases h : n < 16
  · rw [l1 n h]; omega
  · have := l3 (n / 16) (by omega)
    rw [baseD, dif_neg (by omega), List.length_append]; simp; omega
theorem piece_hex {n : Nat} (h : n < 65536) : pieceP (baseD 16 n) = some [UInt8.ofNat (n / 256), UInt8.ofNat n] := by
  unfold pieceP
  rw [baseD_cnt (by omega) (by omega) n (by omega)]
  show (if 1 ≤ (baseD 16 n).length ∧ (baseD 16 n).length ≤ 4 then _ else _) = _
  rw [if_pos (baseD_len16 h)]
/-- The two bytes that a piece tells. -/
def bytesP (p : List UInt8) : List UInt8 := (pieceP p).getD []
theorem bytesP_hex {n : Nat} (h : n < 65536) : pieceP (baseD 16 n) = some (bytesP (baseD 16 n)) := by unfold bytesP; rw [piece_hex h]; rfl
theorem hexT_list (n : Nat) : (hexT n).data.toList = baseD 16 n := by rw [baseD_16]; rfl
theorem hexL_is (B : List UInt8) : hexL B = (List.range 8).map fun k => baseD 16 (pc B k) := by
  unfold hexL hexs
  rw [List.map_map]
  apply List.map_congr_left
  intro k _
  exact hexT_list _
theorem hexL_good (B : List UInt8) : Good4 (hexL B) := fun p hp => by
  rw [hexL_is] at hp
  obtain ⟨k, _, rfl⟩ := List.mem_map.1 hp
  exact ⟨baseD_ne _ _, (baseD_free (by omega) (by omega) _).1⟩
theorem hexL_bytes (B : List UInt8) : ∀ p ∈ hexL B, pieceP p = some (bytesP p) := fun p hp => by
  rw [hexL_is] at hp
  obtain ⟨k, _, rfl⟩ := List.mem_map.1 hp
  exact bytesP_hex (pc_lt B k)
theorem twoB_of (a b : UInt8) : [UInt8.ofNat ((256 * a.toNat + b.toNat) / 256), UInt8.ofNat (256 * a.toNat + b.toNat)] = [a, b] := by
  have ha := a.toNat_lt
  have hb := b.toNat_lt
  have e1 : UInt8.ofNat ((256 * a.toNat + b.toNat) / 256) = a := UInt8.toNat.inj (by rw [UInt8.toNat_ofNat']; omega)
  have e2 : UInt8.ofNat (256 * a.toNat + b.toNat) = b := UInt8.toNat.inj (by rw [UInt8.toNat_ofNat']; omega)
  rw [e1, e2]
theorem bytesP_pc (B : List UInt8) (k : Nat) : bytesP (baseD 16 (pc B k)) = [B.getD (2 * k) 0, B.getD (2 * k + 1) 0] := by
  unfold bytesP
  rw [piece_hex (pc_lt B k)]
  exact twoB_of _ _
theorem hexL_flat (B : List UInt8) : (hexL B).map bytesP = (List.range 8).map fun k => [B.getD (2 * k) 0, B.getD (2 * k + 1) 0] := by
  rw [hexL_is, List.map_map]
  apply List.map_congr_left
  intro k _
  exact bytesP_pc B k
theorem flat_is {ps : List (List UInt8)} {x : List (List UInt8)} (h : ps.map bytesP = x) : ps.flatMap bytesP = x.flatten := by rw [← h, List.flatMap_def]
theorem run_nought8 : ∀ a b c d e f g h : Bool, ∀ j < 8, (runs [a, b, c, d, e, f, g, h] 8).2.1 ≤ j → j < (runs [a, b, c, d, e, f, g, h] 8).2.1 + (runs [a, b, c, d, e, f, g, h] 8).2.2 → [a, b, c, d, e, f, g, h].getD j false = true := by decide +kernel
theorem run_nought (z : List Bool) (hz : z.length = 8) (j : Nat) (hj : j < 8) (h1 : (runs z 8).2.1 ≤ j) (h2 : j < (runs z 8).2.1 + (runs z 8).2.2) : z.getD j false = true := by
  match z, hz with
  | [a, b, c, d, e, f, g, h], _ => exact run_nought8 a b c d e f g h j hj h1 h2
theorem pc_nought {B : List UInt8} {k : Nat} (h : pc B k = 0) : B.getD (2 * k) 0 = 0 ∧ B.getD (2 * k + 1) 0 = 0 := by
  unfold pc at h
  exact ⟨UInt8.toNat.inj (by show _ = 0; omega), UInt8.toNat.inj (by show _ = 0; omega)⟩
theorem pairs_are {B : List UInt8} (hB : B.length = 16) (i n : Nat) (h : i + n ≤ 8) : (((List.range 8).map fun k => [B.getD (2 * k) 0, B.getD (2 * k + 1) 0]).drop i |>.take n).flatten = (B.drop (2 * i)).take (2 * n) := by
  match B, hB with
  | [b0, b1, b2, b3, b4, b5, b6, b7, b8, b9, b10, b11, b12, b13, b14, b15], _ =>
    obtain rfl | rfl | rfl | rfl | rfl | rfl | rfl | rfl | rfl : i = 0 ∨ i = 1 ∨ i = 2 ∨ i = 3 ∨ i = 4 ∨ i = 5 ∨ i = 6 ∨ i = 7 ∨ i = 8 := by omega
    all_goals (obtain rfl | rfl | rfl | rfl | rfl | rfl | rfl | rfl | rfl : n = 0 ∨ n = 1 ∨ n = 2 ∨ n = 3 ∨ n = 4 ∨ n = 5 ∨ n = 6 ∨ n = 7 ∨ n = 8 := by omega)
    all_goals first
      | omega
      | rfl
theorem noughts_mid {B : List UInt8} (hB : B.length = 16) {f n : Nat} (h : f + n ≤ 8) (hz : ∀ j, f ≤ j → j < f + n → pc B j = 0) : (B.drop (2 * f)).take (2 * n) = noughts (2 * n) := by
  apply List.ext_getElem
  · rw [List.length_take, List.length_drop, hB]; simp [noughts]; omega
  · intro i h1 h2
    have hi : i < 2 * n := by simp [noughts] at h2; exact h2
    rw [List.getElem_take, List.getElem_drop]
    simp only [noughts, List.getElem_replicate]
    have := pc_nought (hz (f + i / 2) (by omega) (by omega))
    have hc : 2 * f + i = 2 * (f + i / 2) ∨ 2 * f + i = 2 * (f + i / 2) + 1 := by omega
    rcases hc with hc | hc
    · have h3 := this.1
      rw [List.getD_eq_getElem?_getD, List.getElem?_eq_getElem (by omega), Option.getD_some] at h3
      simpa [hc] using h3
    · have h3 := this.2
      rw [List.getD_eq_getElem?_getD, List.getElem?_eq_getElem (by omega), Option.getD_some] at h3
      simpa [hc] using h3
/-- Sixteen bytes are read from their text. -/
theorem six_back {B : List UInt8} (hB : B.length = 16) : sixS (sixL B) = (true, B, 0) := by
  have hflat := hexL_flat B
  have hzl : (zs B).length = 8 := by simp [zs]
  by_cases hr : (runs (zs B) 8).2.2 < 2
  · rw [sixL_all B hr]
    have hf : (hexL B).flatMap bytesP = B := by
      rw [flat_is hflat]
      have := pairs_are hB 0 8 (by omega)
      rw [List.drop_zero, List.take_of_length_le (by simp), Nat.mul_zero, List.drop_zero, List.take_of_length_le (by omega)] at this
      exact this
    rw [sixS_all (hexL_good B) (hexL_bytes B) (by rw [hf, hB]), hf]
  · obtain ⟨f, n, hfn⟩ : ∃ f n, (runs (zs B) 8).2 = (f, n) := ⟨_, _, rfl⟩
    have hn : 2 ≤ n := by rw [hfn] at hr; simpa using hr
    obtain ⟨h8, hs⟩ := sixL_run B hfn hn
    rw [hs]
    have hp : ((hexL B).take f).flatMap bytesP = B.take (2 * f) := by
      rw [flat_is (x := ((List.range 8).map fun k => [B.getD (2 * k) 0, B.getD (2 * k + 1) 0]).take f) (by rw [List.map_take, hflat])]
      have := pairs_are hB 0 f (by omega)
      rw [List.drop_zero, Nat.mul_zero, List.drop_zero] at this
      exact this
    have hq : ((hexL B).drop (f + n)).flatMap bytesP = B.drop (2 * (f + n)) := by
      rw [flat_is (x := ((List.range 8).map fun k => [B.getD (2 * k) 0, B.getD (2 * k + 1) 0]).drop (f + n)) (by rw [List.map_drop, hflat])]
      have := pairs_are hB (f + n) (8 - (f + n)) (by omega)
      rw [List.take_of_length_le (by simp), List.take_of_length_le (by rw [List.length_drop]; omega)] at this
      exact this
    have hm := noughts_mid hB h8 (fun j h1 h2 => by
      have := run_nought (zs B) hzl j (by omega) (by rw [hfn]; exact h1) (by rw [hfn]; exact h2)
      have hj : j < 8 := by omega
      simp only [zs, List.getD_eq_getElem?_getD, List.getElem?_map, List.getElem?_range hj, Option.map_some, Option.getD_some, beq_iff_eq] at this
      exact this)
    rw [sixS_run ((hexL_good B).take f) ((hexL_good B).drop (f + n)) (fun p hp => hexL_bytes B p (List.mem_of_mem_take hp)) (fun p hp => hexL_bytes B p (List.mem_of_mem_drop hp)) (by rw [hp, hq, List.length_take, List.length_drop, hB]; omega)]
    rw [hp, hq, List.length_take, List.length_drop, hB]
    have e1 : 16 - min (2 * f) 16 - (16 - 2 * (f + n)) = 2 * n := by omega
    rw [e1, ← hm]
    have e2 : B = B.take (2 * f) ++ ((B.drop (2 * f)).take (2 * n) ++ (B.drop (2 * f)).drop (2 * n)) := by rw [List.take_append_drop, List.take_append_drop]
    have e3 : (B.drop (2 * f)).drop (2 * n) = B.drop (2 * (f + n)) := by rw [List.drop_drop]; congr 1; omega
    rw [e3, ← List.append_assoc] at e2
    rw [← e2]
-- four bytes
theorem decs_all {n : Nat} : ∀ c ∈ baseD 10 n, digB c = true := by rw [baseD_10]; exact decDigits_all n
theorem baseD_h0 {n : Nat} : hexedB (baseD 10 n) = false := by
  have hd := decs_all (n := n)
  match hl : baseD 10 n with
  | [] => rfl
  | [a] => rfl
  | a :: b :: r =>
    rw [hl] at hd
    have hb := (digB_iff _).1 (hd b (by simp))
    show (a == 48 && (b == 120 || b == 88)) = false
    have h1 : (b == 120) = false := by rw [beq_eq_false_iff_ne]; intro e; rw [e] at hb; exact absurd hb (by decide)
    have h2 : (b == 88) = false := by rw [beq_eq_false_iff_ne]; intro e; rw [e] at hb; exact absurd hb (by decide)
    rw [h1, h2]; simp
theorem num_dec {n : Nat} (h : n < 256) : numP4 (baseD 10 n) = some n := by
  unfold numP4
  rw [if_neg (by rw [baseD_h0]; decide), if_neg (baseD_ne _ _)]
  by_cases hz : n < 10
  · rw [baseD1 hz]
    by_cases h0 : n = 0
    · subst h0; decide
    · rw [if_neg (by intro e; injection e with e; exact hx_ne48 (by omega) hz e), ← baseD1 hz, baseD_cnt (by omega) (by omega) n (by omega)]
  · rw [if_neg, baseD_cnt (by omega) (by omega) n (by omega)]
    rcases base_canon (n := n) (by omega) with hc | hc
    · exfalso
      by_cases h2 : n < 100
      · rw [baseD2 (by omega) h2] at hc; simp at hc
      · rw [baseD3 (by omega) (by omega)] at hc; simp at hc
    · exact hc
theorem like_dec (n : Nat) : likeB (baseD 10 n) = true := by
  unfold likeB
  rw [if_neg (by rw [baseD_h0]; decide)]
  simp only [Bool.and_eq_true, decide_eq_true_eq, List.all_eq_true]
  exact ⟨baseD_ne _ _, decs_all⟩
def dot4 (a b c d : UInt8) : List UInt8 := Lib.join [baseD 10 a.toNat, baseD 10 b.toNat, baseD 10 c.toNat, baseD 10 d.toNat] [46]
theorem dot4_cut (a b c d : UInt8) : cutAt 46 (dot4 a b c d) = [baseD 10 a.toNat, baseD 10 b.toNat, baseD 10 c.toNat, baseD 10 d.toNat] := by
  refine cutAt_join (fun p hp => ?_) (by simp)
  simp only [List.mem_cons, List.not_mem_nil, or_false] at hp
  rcases hp with rfl | rfl | rfl | rfl <;> exact (baseD_free (by omega) (by omega) _).2
theorem four_bytes (a b c d : UInt8) : fourBytes (((a.toNat * 256 + b.toNat) * 256 + c.toNat) * 256 + d.toNat) = [a, b, c, d] := by
  have ha := a.toNat_lt
  have hb := b.toNat_lt
  have hc := c.toNat_lt
  have hd := d.toNat_lt
  have e1 : UInt8.ofNat ((((a.toNat * 256 + b.toNat) * 256 + c.toNat) * 256 + d.toNat) / 16777216) = a := UInt8.toNat.inj (by rw [UInt8.toNat_ofNat']; omega)
  have e2 : UInt8.ofNat ((((a.toNat * 256 + b.toNat) * 256 + c.toNat) * 256 + d.toNat) / 65536) = b := UInt8.toNat.inj (by rw [UInt8.toNat_ofNat']; omega)
  have e3 : UInt8.ofNat ((((a.toNat * 256 + b.toNat) * 256 + c.toNat) * 256 + d.toNat) / 256) = c := UInt8.toNat.inj (by rw [UInt8.toNat_ofNat']; omega)
  have e4 : UInt8.ofNat ((((a.toNat * 256 + b.toNat) * 256 + c.toNat) * 256 + d.toNat)) = d := UInt8.toNat.inj (by rw [UInt8.toNat_ofNat']; omega)
  unfold fourBytes
  rw [e1, e2, e3, e4]
/-- Four bytes are read from their text. -/
theorem four_back (a b c d : UInt8) : fourS (dot4 a b c d) = ([a, b, c, d] ++ noughts 12, true, 0) := by
  have hp : partsFour (dot4 a b c d) = [baseD 10 a.toNat, baseD 10 b.toNat, baseD 10 c.toNat, baseD 10 d.toNat] := by
    unfold partsFour
    rw [dot4_cut, if_neg]
    rintro ⟨_, h⟩
    injection h with h
    exact baseD_ne _ _ h
  have ha := a.toNat_lt
  have hb := b.toNat_lt
  have hc := c.toNat_lt
  have hd := d.toNat_lt
  unfold fourS
  rw [hp]
  rw [if_pos (by exact like_dec d.toNat), if_neg (by simp)]
  have hv : addrV 4 0 [baseD 10 a.toNat, baseD 10 b.toNat, baseD 10 c.toNat, baseD 10 d.toNat] = some (((a.toNat * 256 + b.toNat) * 256 + c.toNat) * 256 + d.toNat) := by
    rw [addrV_more (num_dec ha), if_pos ha, addrV_more (num_dec hb), if_pos hb, addrV_more (num_dec hc), if_pos hc, addrV_last (num_dec hd), if_pos (show d.toNat < 256 ^ 1 by omega)]
    show some ((((0 * 256 + a.toNat) * 256 + b.toNat) * 256 + c.toNat) * 256 ^ 1 + d.toNat) = _
    rw [Nat.pow_one, Nat.zero_mul, Nat.zero_add]
  rw [hv]
  show (fourBytes _ ++ noughts 12, true, 0) = _
  rw [four_bytes]
theorem cnt_no {b : Nat} {l : List UInt8} (h : (46 : UInt8) ∈ l) : cntB b l = none := by
  unfold cntB
  rw [if_neg]
  rw [List.all_eq_true]
  intro hh
  have := hh 46 h
  unfold okB at this
  rw [show hexI 46 = -1 from by decide] at this
  simp at this
theorem dot4_free (a b c d : UInt8) : (58 : UInt8) ∉ dot4 a b c d ∧ (46 : UInt8) ∈ dot4 a b c d := by
  have h : ∀ n : Nat, (58 : UInt8) ∉ baseD 10 n := fun n => (baseD_free (by omega) (by omega) n).1
  unfold dot4
  rw [join_more, join_more, join_more, Lib.join_one]
  constructor
  · simp [h]
  · simp
theorem piece_dot4 (a b c d : UInt8) : pieceP (dot4 a b c d) = none := by
  unfold pieceP; rw [cnt_no (dot4_free a b c d).2]
/-- Four bytes' text is none of sixteen. -/
theorem six_not (a b c d : UInt8) : sixS (dot4 a b c d) = (false, noughts 16, 5) := by
  have hf := (dot4_free a b c d).1
  have ht : twos (dot4 a b c d) = 0 := by rw [← List.append_nil (dot4 a b c d), twos_free hf]; rfl
  have hne : dot4 a b c d ≠ [] := by intro e; have := (dot4_free a b c d).2; rw [e] at this; simp at this
  unfold sixS
  rw [show Lib.cut (dot4 a b c d) [58, 58] = (dot4 a b c d, [], false) from by unfold Lib.cut; rw [index_two_none ht, if_neg (by decide)]]
  show sixOf false (takeP true (dot4 a b c d)) (some []) = _
  rw [show takeP true (dot4 a b c d) = (fourP (dot4 a b c d)).map ([] ++ ·) from by
    unfold takeP
    rw [if_neg hne, cutAt_free hf, pieceAcc, piece_dot4]; rfl]
  cases h4 : fourP (dot4 a b c d) with
  | none => rfl
  | some x =>
    have := octP_len h4
    show sixOf false (some ([] ++ x)) (some []) = _
    rw [List.nil_append, sixOf_some, if_neg]
    rintro (⟨_, h⟩ | ⟨h, _⟩)
    · rw [this] at h; simp at h
    · cases h
end Go.Proofs.YtiookngmgednjaaDoor
