/- Plain law of chapter 10: what a text of a cookie tells, whatever the cookie. No program stands here. -/
import Derived.Test.YthfndlphhgchnaaGreatDoorSpec10b
namespace Go.Proofs.Foot

/-- A byte that may stand within a part. -/
def okC (c : UInt8) : Prop := c ≠ 59 ∧ badB c = false
/-- What holds of every cookie that a text tells. -/
structure GoodC (t : CkT) : Prop where
  nm : trim t.name = t.name
  nm61 : (61 : UInt8) ∉ t.name
  vl : trim t.value = t.value
  one : t.name ≠ [] ∨ t.value ≠ []
  len : t.name.length + t.value.length ≤ 4096
  nv : ∀ c ∈ t.name ++ t.value, okC c
  dom : lower t.domain = t.domain
  domL : lastNB t.domain
  domN : t.domain.length ≤ 1024
  pth : t.path = [] ∨ t.path.head? = some 47
  pthT : trim t.path = t.path
  pthN : t.path.length ≤ 1024
  dp : ∀ c ∈ t.domain ++ t.path, okC c
  exp0 : t.hasExp = false → t.exp = 0
  expR : t.exp ≤ 253402300799
  age0 : t.hasAge = false → t.age = 0
  age1 : -2147483647 ≤ t.age ∧ t.age ≤ 2147483647
  site : t.site ≤ 3
/-- The part of it that attributes may change. -/
structure RestC (t : CkT) : Prop where
  dom : lower t.domain = t.domain
  domL : lastNB t.domain
  domN : t.domain.length ≤ 1024
  pth : t.path = [] ∨ t.path.head? = some 47
  pthT : trim t.path = t.path
  pthN : t.path.length ≤ 1024
  dp : ∀ c ∈ t.domain ++ t.path, okC c
  exp0 : t.hasExp = false → t.exp = 0
  expR : t.exp ≤ 253402300799
  age0 : t.hasAge = false → t.age = 0
  age1 : -2147483647 ≤ t.age ∧ t.age ≤ 2147483647
  site : t.site ≤ 3
theorem blank_low (c : UInt8) : blankB (lowB c) = blankB c := by
  have := all_u8 (fun c => blankB (lowB c) == blankB c) (by decide +kernel) c
  simpa using this
theorem ok_low {c : UInt8} (h : okC c) : okC (lowB c) := by
  have h1 := all_u8 (fun c => (c == 59 || badB c) || !(lowB c == 59 || badB (lowB c))) (by decide +kernel) c
  obtain ⟨a, b⟩ := h
  have hc : (c == 59) = false := by rw [beq_eq_false_iff_ne]; exact a
  rw [hc, b] at h1
  simp at h1
  exact ⟨h1.1, h1.2⟩
theorem lastNB_lower {l : List UInt8} (h : lastNB l) : lastNB (lower l) := by
  intro c hc
  unfold lower at hc
  rw [List.getLast?_map] at hc
  cases hl : l.getLast? with
  | none => rw [hl] at hc; cases hc
  | some d =>
    rw [hl] at hc
    simp at hc
    rw [← hc, blank_low]
    exact h d hl
theorem offH_mem {a : UInt8} {l : List UInt8} {c : UInt8} (h : c ∈ offH a l) : c ∈ l := by
  unfold offH at h
  split at h
  · exact List.mem_of_mem_drop h
  · exact h
theorem lastNB_off {a : UInt8} {l : List UInt8} (h : lastNB l) : lastNB (offH a l) := by
  intro c hc
  unfold offH at hc
  split at hc
  · cases l with
    | nil => cases hc
    | cons d r =>
      simp only [List.drop_succ_cons, List.drop_zero] at hc
      refine h c ?_
      cases r with
      | nil => cases hc
      | cons e r => rw [List.getLast?_cons_cons]; exact hc
  · exact h c hc
theorem dayN_top {y m k : Int} (h : (1 ≤ y ∧ y ≤ 9999) ∧ (1 ≤ m ∧ m ≤ 12) ∧ (1 ≤ k ∧ k ≤ dimY y m)) : befY y + cumY y m + k ≤ 3652059 := by
  obtain ⟨⟨a, b⟩, ⟨c, d⟩, e, f⟩ := h
  have h1 := cumY_succ (y := y) c d
  have h2 := cumY_mono (y := y) (a := m + 1) (b := 13) (by omega) (by omega) (by omega)
  have h3 := cumY_13 y
  have h4 := befY_succ y
  have h5 := befY_mono (show y + 1 ≤ 10000 by omega)
  rw [befY_10000] at h5
  omega
theorem dateO_le {l : List UInt8} {x : Int} (h : dateO l = some x) : x ≤ 253402300799 := by
  unfold dateO dateD at h
  split at h
  · rename_i hh
    have ok := of_decide_eq_true hh.2
    injection h with h
    have ht := dayN_top ⟨ok.1, ok.2.1, ok.2.2.1⟩
    obtain ⟨-, -, -, h1, h2, h3⟩ := ok
    rw [← h]
    unfold secS
    omega
  · cases h
theorem ageO_le {l : List UInt8} {x : Int} (h : ageO l = some x) : -2147483647 ≤ x ∧ x ≤ 2147483647 := by
  unfold ageO at h
  split at h
  · injection h with h
    have : min maxN (digV 0 (offH 45 l)) ≤ 2147483647 := Nat.min_le_left _ _
    rw [← h]
    split <;> omega
  · cases h
theorem siteO_le (l : List UInt8) : siteO l ≤ 3 := by
  unfold siteO; split
  · omega
  · split
    · omega
    · split <;> omega
theorem trim_len_le {l : List UInt8} {n : Nat} (h : l.length ≤ n) : (trim l).length ≤ n := Nat.le_trans (trim_length l) h
theorem pathO_len (l : List UInt8) : (pathO l).length ≤ l.length := by unfold pathO; split <;> simp
theorem RestC.attr {t : CkT} (h : RestC t) (n : List UInt8) {v : List UInt8} (hv : trim v = v) (hl : v.length ≤ 1024) (hc : ∀ c ∈ v, okC c) : RestC (attrC t n v) := by
  obtain ⟨h1, h2, h3, h4, h5, h6, h7, h8, h9, h10, h11, h12⟩ := h
  unfold attrC
  split
  · cases hd : dateO v with
    | none => exact ⟨h1, h2, h3, h4, h5, h6, h7, h8, h9, h10, h11, h12⟩
    | some x => exact ⟨h1, h2, h3, h4, h5, h6, h7, (fun e => by cases e), dateO_le hd, h10, h11, h12⟩
  · split
    · cases hd : ageO v with
      | none => exact ⟨h1, h2, h3, h4, h5, h6, h7, h8, h9, h10, h11, h12⟩
      | some x => exact ⟨h1, h2, h3, h4, h5, h6, h7, h8, h9, (fun e => by cases e), ageO_le hd, h12⟩
    · split
      · refine ⟨lower_lower _, lastNB_lower (lastNB_off (by rw [← hv]; exact trim_last _)), ?_, h4, h5, h6, ?_, h8, h9, h10, h11, h12⟩
        · show (lower (offH 46 v)).length ≤ 1024
          rw [lower_length]
          exact Nat.le_trans (offH_len _ _) hl
        · intro c hc'
          rcases List.mem_append.1 hc' with hc' | hc'
          · obtain ⟨d, hd, rfl⟩ := List.mem_map.1 hc'
            exact ok_low (hc d (offH_mem hd))
          · exact h7 c (List.mem_append_right _ hc')
      · split
        · have hp : ∀ c ∈ pathO v, okC c := by
            intro c hc'
            unfold pathO at hc'
            split at hc'
            · exact hc c hc'
            · cases hc'
          refine ⟨h1, h2, h3, ?_, ?_, Nat.le_trans (pathO_len v) hl, ?_, h8, h9, h10, h11, h12⟩
          · show pathO v = [] ∨ (pathO v).head? = some 47
            unfold pathO; split
            · right; assumption
            · exact .inl rfl
          · show trim (pathO v) = pathO v
            unfold pathO; split
            · exact hv
            · rfl
          · intro c hc'
            rcases List.mem_append.1 hc' with hc' | hc'
            · exact h7 c (List.mem_append_left _ hc')
            · exact hp c hc'
        · split
          · exact ⟨h1, h2, h3, h4, h5, h6, h7, h8, h9, h10, h11, h12⟩
          · split
            · exact ⟨h1, h2, h3, h4, h5, h6, h7, h8, h9, h10, h11, h12⟩
            · split
              · exact ⟨h1, h2, h3, h4, h5, h6, h7, h8, h9, h10, h11, siteO_le _⟩
              · exact ⟨h1, h2, h3, h4, h5, h6, h7, h8, h9, h10, h11, h12⟩
theorem aftE_mem {l : List UInt8} {c : UInt8} (h : c ∈ aftE l) : c ∈ l := (List.dropWhile_sublist _).mem (List.mem_of_mem_drop h)
theorem befE_mem {l : List UInt8} {c : UInt8} (h : c ∈ befE l) : c ∈ l := (List.takeWhile_sublist _).mem h
theorem RestC.more {t : CkT} (h : RestC t) : ∀ {ps : List (List UInt8)} (_ : ∀ p ∈ ps, ∀ c ∈ p, okC c), RestC (moreC t ps) := by
  intro ps
  induction ps generalizing t with
  | nil => intro _; exact h
  | cons p ps ih =>
    intro hp
    rw [moreC_cons]
    refine ih ?_ (fun q hq => hp q (List.mem_cons_of_mem _ hq))
    unfold applyC
    split
    · rename_i hl
      exact h.attr _ (trim_trim _) hl (fun c hc => hp p (by simp) c (aftE_mem (trim_sub _ c hc)))
    · exact h
theorem attrC_nv (t : CkT) (n v : List UInt8) : (attrC t n v).name = t.name ∧ (attrC t n v).value = t.value := by
  unfold attrC
  split
  · split <;> exact ⟨rfl, rfl⟩
  · split
    · split <;> exact ⟨rfl, rfl⟩
    · split
      · exact ⟨rfl, rfl⟩
      · split
        · exact ⟨rfl, rfl⟩
        · split
          · exact ⟨rfl, rfl⟩
          · split
            · exact ⟨rfl, rfl⟩
            · split <;> exact ⟨rfl, rfl⟩
theorem moreC_nv (ps : List (List UInt8)) : ∀ t : CkT, (moreC t ps).name = t.name ∧ (moreC t ps).value = t.value := by
  induction ps with
  | nil => intro t; exact ⟨rfl, rfl⟩
  | cons p ps ih =>
    intro t
    rw [moreC_cons]
    obtain ⟨a, b⟩ := ih (applyC t (nameP p) (valP p))
    rw [a, b]
    unfold applyC
    split
    · exact attrC_nv _ _ _
    · exact ⟨rfl, rfl⟩
theorem cutAt_mem {a : UInt8} {l p : List UInt8} (h : p ∈ cutAt a l) {c : UInt8} (hc : c ∈ p) : c ∈ l := by
  induction l generalizing p with
  | nil => simp [cutAt] at h; subst h; cases hc
  | cons d l ih =>
    rw [cutAt] at h
    split at h
    · rcases List.mem_cons.1 h with rfl | h
      · cases hc
      · exact List.mem_cons_of_mem _ (ih h hc)
    · cases hl : cutAt a l with
      | nil => exact absurd hl (cutAt_ne _ _)
      | cons q qs =>
        rw [hl] at h ih
        rcases List.mem_cons.1 h with rfl | h
        · rcases List.mem_cons.1 hc with rfl | hc
          · simp
          · exact List.mem_cons_of_mem _ (ih (p := q) (by simp) hc)
        · exact List.mem_cons_of_mem _ (ih (List.mem_cons_of_mem _ h) hc)
theorem cutAt_ok {l p : List UInt8} (hb : l.any badB = false) (h : p ∈ cutAt 59 l) : ∀ c ∈ p, okC c := by
  intro c hc
  refine ⟨?_, ?_⟩
  · rintro rfl; exact cutAt_no 59 l p h hc
  · have := List.any_eq_false.1 hb c (cutAt_mem h hc)
    simpa using this
theorem restC_start (n v : List UInt8) : RestC { name := n, value := v } :=
  ⟨rfl, (fun c h => by cases h), Nat.zero_le _, .inl rfl, rfl, Nat.zero_le _, (fun c h => by cases h), fun _ => rfl, (show (0 : Int) ≤ 253402300799 by decide), fun _ => rfl, (show (-2147483647 : Int) ≤ 0 ∧ (0 : Int) ≤ 2147483647 by decide), Nat.zero_le _⟩
theorem befE_no (l : List UInt8) : (61 : UInt8) ∉ befE l := by
  rcases equals_ways l with h | ⟨h, r, rfl, hh⟩
  · rw [(befE_free h).1]; exact h
  · rw [(befE_at hh r).1]; exact hh
theorem goodC_of {l : List UInt8} {t : CkT} (h : parseC l = (t, 0)) : GoodC t := by
  have h1 : ¬ 65536 < l.length := by intro h1; rw [parseC_long h1] at h; injection h with _ h; cases h
  have h2 : l.any badB = false := by
    cases h2 : l.any badB with
    | false => rfl
    | true => rw [parseC_bad h1 h2] at h; injection h with _ h; cases h
  obtain ⟨p, ps, hc⟩ : ∃ p ps, cutAt 59 l = p :: ps := by
    cases hc : cutAt 59 l with
    | nil => exact absurd hc (cutAt_ne _ _)
    | cons p ps => exact ⟨p, ps, rfl⟩
  have hok : ∀ q ∈ cutAt 59 l, ∀ c ∈ q, okC c := fun q hq => cutAt_ok h2 hq
  rw [hc] at hok
  rw [parseC_go h1 h2 hc] at h
  unfold startC at h
  split at h
  · injection h with _ h; cases h
  · rename_i g1
    split at h
    · injection h with _ h; cases h
    · rename_i g2
      injection h with h
      have hr := (restC_start (name0 p) (value0 p)).more (fun q hq => hok q (List.mem_cons_of_mem _ hq))
      obtain ⟨n1, n2⟩ := moreC_nv ps { name := name0 p, value := value0 p }
      rw [h] at hr n1 n2
      obtain ⟨a1, a2, a3, a4, a5, a6, a7, a8, a9, a10, a11, a12⟩ := hr
      refine ⟨?_, ?_, ?_, ?_, ?_, ?_, a1, a2, a3, a4, a5, a6, a7, a8, a9, a10, a11, a12⟩
      · rw [n1]; show trim (name0 p) = name0 p
        unfold name0; split
        · exact trim_trim _
        · rfl
      · rw [n1]; show (61 : UInt8) ∉ name0 p
        unfold name0; split
        · exact fun e => befE_no p (trim_sub _ _ e)
        · exact fun e => by cases e
      · rw [n2]; show trim (value0 p) = value0 p
        unfold value0; split <;> exact trim_trim _
      · rw [n1, n2]
        show name0 p ≠ [] ∨ value0 p ≠ []
        by_cases e : name0 p = []
        · right; intro e2; exact g2 ⟨e, e2⟩
        · exact .inl e
      · rw [n1, n2]; show (name0 p).length + (value0 p).length ≤ 4096; omega
      · rw [n1, n2]
        intro c hc
        refine hok p (by simp) c ?_
        rcases List.mem_append.1 hc with hc | hc
        · have hc : c ∈ name0 p := hc
          unfold name0 at hc; split at hc
          · exact befE_mem (trim_sub _ _ hc)
          · cases hc
        · have hc : c ∈ value0 p := hc
          unfold value0 at hc; split at hc
          · exact aftE_mem (trim_sub _ _ hc)
          · exact befE_mem (trim_sub _ _ hc)
/-! One part after the other. -/
theorem part_eq {K V : List UInt8} (hK : (61 : UInt8) ∉ K) (t : CkT) : applyC t (nameP (32 :: (K ++ 61 :: V))) (valP (32 :: (K ++ 61 :: V))) = applyC t (trim K) (trim V) := by
  obtain ⟨h1, h2, _⟩ := same_ahead (b := [32]) (by decide) (K ++ 61 :: V)
  have h1' : nameP (32 :: (K ++ 61 :: V)) = nameP (K ++ 61 :: V) := h1
  have h2' : valP (32 :: (K ++ 61 :: V)) = valP (K ++ 61 :: V) := h2
  rw [h1', h2']
  unfold nameP valP
  rw [(befE_at hK V).1, (befE_at hK V).2.1]
theorem part_bare {K : List UInt8} (hK : (61 : UInt8) ∉ K) (t : CkT) : applyC t (nameP (32 :: K)) (valP (32 :: K)) = applyC t (trim K) [] := by
  obtain ⟨h1, h2, _⟩ := same_ahead (b := [32]) (by decide) K
  have h1' : nameP (32 :: K) = nameP K := h1
  have h2' : valP (32 :: K) = valP K := h2
  rw [h1', h2']
  unfold nameP valP
  rw [(befE_free hK).1, (befE_free hK).2.1]
  rfl
theorem more_if (u : CkT) (b : Prop) [Decidable b] (X : List UInt8) : moreC u ((if b then [X] else []).map (32 :: ·)) = if b then applyC u (nameP (32 :: X)) (valP (32 :: X)) else u := by
  by_cases h : b
  · rw [if_pos h, if_pos h]; rfl
  · rw [if_neg h, if_neg h]; rfl
theorem apply_go {t : CkT} {n v : List UInt8} (h : v.length ≤ 1024) : applyC t n v = attrC t (lower n) v := if_pos h
theorem piece_exp (u : CkT) (b : Bool) {D : List UInt8} (hT : trim D = D) (hN : D.length ≤ 1024) :
    moreC u ((if b = true then [[69, 120, 112, 105, 114, 101, 115] ++ 61 :: D] else []).map (32 :: ·)) = { u with exp := (if b = true then dateO D else none).getD u.exp, hasExp := (if b = true then dateO D else none).isSome || u.hasExp } := by
  rw [more_if]
  cases b with
  | false => rw [if_neg (by decide), if_neg (by decide)]; rfl
  | true =>
    rw [if_pos rfl, if_pos rfl, part_eq (by decide), hT, apply_go hN]
    show attrC u expL D = _
    unfold attrC
    rw [if_pos rfl]
    cases dateO D <;> rfl
theorem piece_age (u : CkT) (b : Bool) {D : List UInt8} (hT : trim D = D) (hN : D.length ≤ 1024) :
    moreC u ((if b = true then [[77, 97, 120, 45, 65, 103, 101] ++ 61 :: D] else []).map (32 :: ·)) = { u with age := (if b = true then ageO D else none).getD u.age, hasAge := (if b = true then ageO D else none).isSome || u.hasAge } := by
  rw [more_if]
  cases b with
  | false => rw [if_neg (by decide), if_neg (by decide)]; rfl
  | true =>
    rw [if_pos rfl, if_pos rfl, part_eq (by decide), hT, apply_go hN]
    show attrC u ageL D = _
    unfold attrC
    rw [if_neg (by decide), if_pos rfl]
    cases ageO D <;> rfl
theorem piece_dom (u : CkT) {d : List UInt8} (hN : d.length ≤ 1024) (hu : u.domain = []) :
    moreC u ((if d ≠ [] then [[68, 111, 109, 97, 105, 110] ++ 61 :: d] else []).map (32 :: ·)) = { u with domain := lower (offH 46 (trim d)) } := by
  rw [more_if]
  by_cases h : d = []
  · subst h; rw [if_neg (by simp)]
    cases u; simp only at hu; subst hu; rfl
  · rw [if_pos h, part_eq (by decide), apply_go (trim_len_le hN)]
    show attrC u domL (trim d) = _
    unfold attrC
    rw [if_neg (by decide), if_neg (by decide), if_pos rfl]
theorem piece_path (u : CkT) {d : List UInt8} (hN : d.length ≤ 1024) (hu : u.path = []) (hT : trim d = d) (hp : d = [] ∨ d.head? = some 47) :
    moreC u ((if d ≠ [] then [[80, 97, 116, 104] ++ 61 :: d] else []).map (32 :: ·)) = { u with path := d } := by
  rw [more_if]
  by_cases h : d = []
  · subst h; rw [if_neg (by simp)]
    cases u; simp only at hu; subst hu; rfl
  · rw [if_pos h, part_eq (by decide), hT, apply_go hN]
    show attrC u pathL d = _
    unfold attrC
    rw [if_neg (by decide), if_neg (by decide), if_neg (by decide), if_pos rfl]
    have : pathO d = d := if_pos (hp.resolve_left h)
    rw [this]
theorem piece_sec (u : CkT) (b : Bool) : moreC u ((if b = true then [[83, 101, 99, 117, 114, 101]] else []).map (32 :: ·)) = { u with secure := b || u.secure } := by
  rw [more_if]
  cases b with
  | false => rw [if_neg (by decide)]; rfl
  | true => rw [if_pos rfl, part_bare (by decide), apply_go (by decide)]; rfl
theorem piece_hid (u : CkT) (b : Bool) : moreC u ((if b = true then [[72, 116, 116, 112, 79, 110, 108, 121]] else []).map (32 :: ·)) = { u with hidden := b || u.hidden } := by
  rw [more_if]
  cases b with
  | false => rw [if_neg (by decide)]; rfl
  | true => rw [if_pos rfl, part_bare (by decide), apply_go (by decide)]; rfl
theorem piece_site (u : CkT) (s : Nat) (hs : s ≤ 3) (hu : u.site = 0) : moreC u ((if s = 1 then [[83, 97, 109, 101, 83, 105, 116, 101] ++ 61 :: [83, 116, 114, 105, 99, 116]] else if s = 2 then [[83, 97, 109, 101, 83, 105, 116, 101] ++ 61 :: [76, 97, 120]] else if s = 3 then [[83, 97, 109, 101, 83, 105, 116, 101] ++ 61 :: [78, 111, 110, 101]] else []).map (32 :: ·)) = { u with site := s } := by
  have : s = 0 ∨ s = 1 ∨ s = 2 ∨ s = 3 := by omega
  rcases this with rfl | rfl | rfl | rfl
  · cases u; simp only at hu; subst hu; rfl
  · rfl
  · rfl
  · rfl
/-- What a cookie's text tells. -/
theorem parse_text {t : CkT} (G : GoodC t) {D A : List UInt8} (hDT : trim D = D) (hDN : D.length ≤ 100) (hDc : ∀ c ∈ D, okC c) (hAT : trim A = A) (hAN : A.length ≤ 100) (hAc : ∀ c ∈ A, okC c) :
    parseC (textC t D A) = ({ t with exp := (if t.hasExp = true then dateO D else none).getD 0, hasExp := (if t.hasExp = true then dateO D else none).isSome, age := (if t.hasAge = true then ageO A else none).getD 0, hasAge := (if t.hasAge = true then ageO A else none).isSome, domain := lower (offH 46 (trim t.domain)) }, 0) := by
  obtain ⟨g1, g2, g3, g4, g5, g6, g7, g8, g9, g10, g11, g12, g13, g14, g15, g16, g17, g18⟩ := G
  have hkey : ∀ K : List UInt8, (∀ c ∈ K, okC c) → ∀ V : List UInt8, (∀ c ∈ V, okC c) → ∀ c ∈ K ++ 61 :: V, okC c := by
    intro K hK V hV c hc
    rcases List.mem_append.1 hc with hc | hc
    · exact hK c hc
    · rcases List.mem_cons.1 hc with rfl | hc
      · exact ⟨by decide, by decide⟩
      · exact hV c hc
  have hdec : ∀ K : List UInt8, K.all (fun c => decide (c ≠ 59) && !badB c) = true → ∀ c ∈ K, okC c := by
    intro K hK c hc
    have := List.all_eq_true.1 hK c hc
    simp at this
    exact ⟨this.1, this.2⟩
  have hhead : ∀ c ∈ headC t, okC c := by
    intro c hc
    unfold headC at hc
    rcases List.mem_append.1 hc with hc | hc
    · exact g6 c (List.mem_append_left _ hc)
    · rcases List.mem_cons.1 hc with rfl | hc
      · exact ⟨by decide, by decide⟩
      · exact g6 c (List.mem_append_right _ hc)
  have hif : ∀ (b : Prop) [Decidable b] (X : List UInt8), (∀ c ∈ X, okC c) → ∀ p ∈ (if b then [X] else []), ∀ c ∈ p, okC c := by
    intro b _ X hX p hp
    split at hp
    · simp at hp; subst hp; exact hX
    · cases hp
  have hlen1 : ∀ (b : Prop) [Decidable b] (X : List UInt8) (n : Nat), X.length ≤ n → ((if b then [X] else []).flatMap fun p => (59 : UInt8) :: 32 :: p).length ≤ n + 2 := by
    intro b _ X n hX
    split
    · simp; omega
    · simp
  have hps : ∀ p ∈ partsC t D A, ∀ c ∈ p, okC c := by
    intro p hp
    unfold partsC at hp
    simp only [List.mem_append] at hp
    rcases hp with hp | hp | hp | hp | hp | hp | hp
    · exact hif _ _ (hkey _ (hdec _ (by decide)) _ hDc) p hp
    · exact hif _ _ (hkey _ (hdec _ (by decide)) _ hAc) p hp
    · exact hif _ _ (hkey _ (hdec _ (by decide)) _ (fun c hc => g13 c (List.mem_append_left _ hc))) p hp
    · exact hif _ _ (hkey _ (hdec _ (by decide)) _ (fun c hc => g13 c (List.mem_append_right _ hc))) p hp
    · exact hif _ _ (hdec _ (by decide)) p hp
    · exact hif _ _ (hdec _ (by decide)) p hp
    · split at hp
      · simp at hp; subst hp; exact hdec _ (by decide)
      · split at hp
        · simp at hp; subst hp; exact hdec _ (by decide)
        · split at hp
          · simp at hp; subst hp; exact hdec _ (by decide)
          · cases hp
  have hlen : (textC t D A).length ≤ 65536 := by
    unfold textC partsC headC
    simp only [List.flatMap_append, List.length_append, List.length_cons]
    have l1 := hlen1 (t.hasExp = true) ([69, 120, 112, 105, 114, 101, 115] ++ 61 :: D) 108 (by simp; omega)
    have l2 := hlen1 (t.hasAge = true) ([77, 97, 120, 45, 65, 103, 101] ++ 61 :: A) 108 (by simp; omega)
    have l3 := hlen1 (t.domain ≠ []) ([68, 111, 109, 97, 105, 110] ++ 61 :: t.domain) 1031 (by simp; omega)
    have l4 := hlen1 (t.path ≠ []) ([80, 97, 116, 104] ++ 61 :: t.path) 1029 (by simp; omega)
    have l5 := hlen1 (t.secure = true) [83, 101, 99, 117, 114, 101] 6 (by simp)
    have l6 := hlen1 (t.hidden = true) [72, 116, 116, 112, 79, 110, 108, 121] 8 (by simp)
    have l7 : ((if t.site = 1 then [[83, 97, 109, 101, 83, 105, 116, 101] ++ 61 :: [83, 116, 114, 105, 99, 116]] else if t.site = 2 then [[83, 97, 109, 101, 83, 105, 116, 101] ++ 61 :: [76, 97, 120]] else if t.site = 3 then [[83, 97, 109, 101, 83, 105, 116, 101] ++ 61 :: [78, 111, 110, 101]] else []).flatMap fun p => (59 : UInt8) :: 32 :: p).length ≤ 17 := by
      split
      · simp
      · split
        · simp
        · split <;> simp
    omega
  have hbad : (textC t D A).any badB = false := by
    rw [List.any_eq_false]
    intro c hc
    unfold textC at hc
    rcases List.mem_append.1 hc with hc | hc
    · rw [(hhead c hc).2]; decide
    · obtain ⟨p, hp, hc⟩ := List.mem_flatMap.1 hc
      rcases List.mem_cons.1 hc with rfl | hc
      · decide
      · rcases List.mem_cons.1 hc with rfl | hc
        · decide
        · rw [(hps p hp c hc).2]; decide
  have hcut : cutAt 59 (textC t D A) = headC t :: (partsC t D A).map (32 :: ·) := cut_parts (fun e => (hhead _ e).1 rfl) _ (fun p hp e => (hps p hp _ e).1 rfl)
  rw [parseC_go (by omega) hbad hcut]
  obtain ⟨e1, e2, e3⟩ := befE_at g2 t.value
  have n0 : name0 (headC t) = t.name := by unfold name0 headC; rw [e3, if_pos rfl]; unfold nameP; rw [e1, g1]
  have v0 : value0 (headC t) = t.value := by unfold value0 headC; rw [e3, if_pos rfl]; unfold valP; rw [e2, g3]
  unfold startC
  rw [n0, v0, if_neg (by omega), if_neg (fun e => g4.elim (fun c => c e.1) (fun c => c e.2))]
  unfold partsC
  simp only [List.map_append, moreC_append]
  rw [piece_exp _ _ hDT (by omega), piece_age _ _ hAT (by omega), piece_dom _ g9 rfl, piece_path _ g12 rfl g11 g10, piece_sec, piece_hid, piece_site _ _ g18 rfl]
  simp
/-- A cookie's text tells it again. -/
theorem text_back {t : CkT} (G : GoodC t) {D A : List UInt8} (hDT : trim D = D) (hDN : D.length ≤ 100) (hDc : ∀ c ∈ D, okC c) (hAT : trim A = A) (hAN : A.length ≤ 100) (hAc : ∀ c ∈ A, okC c) (hA : ageO A = some t.age)
    (hD : t.hasExp = true → dateO D = some t.exp) (hdom : t.domain.head? ≠ some 46 ∧ t.domain.head? ≠ some 32 ∧ t.domain.head? ≠ some 9) : parseC (textC t D A) = (t, 0) := by
  rw [parse_text G hDT hDN hDc hAT hAN hAc]
  have hd : lower (offH 46 (trim t.domain)) = t.domain := by
    have h1 : trim t.domain = t.domain := by
      show trimE (trimL t.domain) = t.domain
      rw [trimL_id, trimE_id G.domL]
      intro c hc
      obtain ⟨_, b, d⟩ := hdom
      rw [hc] at b d
      unfold blankB
      simp
      exact ⟨fun e => b (by rw [e]), fun e => d (by rw [e])⟩
    rw [h1, offH_no hdom.1, G.dom]
  rw [hd]
  have he : (if t.hasExp = true then dateO D else none).getD 0 = t.exp ∧ (if t.hasExp = true then dateO D else none).isSome = t.hasExp := by
    cases h : t.hasExp with
    | true => rw [if_pos rfl, hD h]; exact ⟨rfl, rfl⟩
    | false => rw [if_neg (by decide), G.exp0 h]; exact ⟨rfl, rfl⟩
  have ha : (if t.hasAge = true then ageO A else none).getD 0 = t.age ∧ (if t.hasAge = true then ageO A else none).isSome = t.hasAge := by
    cases h : t.hasAge with
    | true => rw [if_pos rfl, hA]; exact ⟨rfl, rfl⟩
    | false => rw [if_neg (by decide), G.age0 h]; exact ⟨rfl, rfl⟩
  rw [he.1, he.2, ha.1, ha.2]
theorem trim_short {c : UInt8} {l : List UInt8} (h : blankB c = true) : (trim (c :: l)).length ≤ l.length := by
  have := trim_ahead (b := [c]) (by intro d hd; simp at hd; rw [hd]; exact h) l
  rw [show c :: l = [c] ++ l from rfl, this]
  exact trim_length l
theorem text_not {t : CkT} (G : GoodC t) {D A : List UInt8} (hDT : trim D = D) (hDN : D.length ≤ 100) (hDc : ∀ c ∈ D, okC c) (hAT : trim A = A) (hAN : A.length ≤ 100) (hAc : ∀ c ∈ A, okC c)
    (h : (t.hasExp = true ∧ dateO D = none) ∨ (t.domain.head? = some 46 ∨ t.domain.head? = some 32 ∨ t.domain.head? = some 9)) : parseC (textC t D A) ≠ (t, 0) := by
  rw [parse_text G hDT hDN hDc hAT hAN hAc]
  intro he
  injection he with he
  rcases h with ⟨h1, h2⟩ | h
  · have := congrArg CkT.hasExp he
    simp only [h1, h2] at this
    simp at this
  · have hl := congrArg (fun t : CkT => t.domain.length) he
    simp only [lower_length] at hl
    cases hd : t.domain with
    | nil => rw [hd] at h; rcases h with h | h | h <;> cases h
    | cons c r =>
      rw [hd] at h hl
      simp only [List.head?_cons, Option.some.injEq] at h
      rcases h with rfl | rfl | rfl
      · have hL := G.domL
        rw [hd] at hL
        have ht : trim (46 :: r) = 46 :: r := by
          show trimE (trimL (46 :: r)) = 46 :: r
          rw [trimL_no (by decide), trimE_id hL]
        rw [ht, offH_yes] at hl
        simp at hl
      · have := trim_short (c := 32) (l := r) (by decide)
        have h2 := offH_len 46 (trim (32 :: r))
        rw [List.length_cons] at hl
        omega
      · have := trim_short (c := 9) (l := r) (by decide)
        have h2 := offH_len 46 (trim (9 :: r))
        rw [List.length_cons] at hl
        omega
/-! Ages as numbers. -/
theorem itoa_age {x : Int} (h : -2147483647 ≤ x ∧ x ≤ 2147483647) : ageO (Lib.itoa x) = some x := by
  unfold Lib.itoa
  split
  · unfold ageO
    have e : offH 45 (45 :: Lib.decDigits x.natAbs) = Lib.decDigits x.natAbs := offH_yes _ _
    rw [e, if_pos ⟨decDigits_ne _, decDigits_all _⟩, digV_decDigits, if_pos (show (45 :: Lib.decDigits x.natAbs).head? = some 45 from rfl), Nat.min_eq_right (by unfold maxN; omega)]
    congr 1; omega
  · have hh : (Lib.decDigits x.toNat).head? ≠ some 45 := by
      intro e
      have := decDigits_all x.toNat 45 (List.mem_of_mem_head? (by rw [e]; exact Option.mem_some_self _))
      exact absurd this (by decide)
    unfold ageO
    rw [offH_no hh, if_pos ⟨decDigits_ne _, decDigits_all _⟩, digV_decDigits, if_neg hh, Nat.min_eq_right (by unfold maxN; omega)]
    congr 1; omega
theorem dig_ok {c : UInt8} (h : digB c = true) : okC c ∧ blankB c = false := by
  have h1 := all_u8 (fun c => !digB c || (!(c == 59) && !badB c && !blankB c)) (by decide +kernel) c
  rw [h] at h1
  simp at h1
  exact ⟨⟨h1.1.1, h1.1.2⟩, h1.2⟩
theorem trim_nb {l : List UInt8} (h : ∀ c ∈ l, blankB c = false) : trim l = l := by
  show trimE (trimL l) = l
  rw [trimL_id (fun c hc => h c (List.mem_of_mem_head? (by rw [hc]; exact Option.mem_some_self _))), trimE_id (fun c hc => h c (List.mem_of_getLast? hc))]
theorem itoa_ok (x : Int) : (∀ c ∈ Lib.itoa x, okC c) ∧ trim (Lib.itoa x) = Lib.itoa x := by
  have h : ∀ c ∈ Lib.itoa x, okC c ∧ blankB c = false := by
    intro c hc
    unfold Lib.itoa at hc
    split at hc
    · rcases List.mem_cons.1 hc with rfl | hc
      · exact ⟨⟨by decide, by decide⟩, by decide⟩
      · exact dig_ok (decDigits_all _ c hc)
    · exact dig_ok (decDigits_all _ c hc)
  exact ⟨fun c hc => (h c hc).1, trim_nb fun c hc => (h c hc).2⟩
end Go.Proofs.Foot
