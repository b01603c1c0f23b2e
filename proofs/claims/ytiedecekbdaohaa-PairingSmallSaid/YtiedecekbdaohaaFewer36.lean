/- PairingFewer: the plain law. -/
import Derived.Test.YtiedecekbdaohaaNamed36
import Derived.Test.YtiedecekbdaohaaDrawNum
namespace Go.Proofs.Ytiedecekbdaohaa

def sumI (f : Int → Nat) : List Int → Nat
  | [] => 0
  | x :: l => f x + sumI f l
theorem sumI_append (f : Int → Nat) : ∀ a b, sumI f (a ++ b) = sumI f a + sumI f b
  | [], b => by simp [sumI]
  | x :: a, b => by simp only [List.cons_append, sumI, sumI_append f a b]; omega
theorem sumI_congr {f g : Int → Nat} : ∀ {l : List Int}, (∀ x ∈ l, f x = g x) → sumI f l = sumI g l
  | [], _ => rfl
  | x :: l, h => by
    simp only [sumI, h x (List.mem_cons_self ..), sumI_congr (l := l) (fun y hy => h y (List.mem_cons_of_mem _ hy))]
theorem sumI_add (f g : Int → Nat) : ∀ l, sumI (fun x => f x + g x) l = sumI f l + sumI g l
  | [] => rfl
  | x :: l => by simp only [sumI, sumI_add f g l]; omega
theorem sumI_filter (f : Int → Nat) (p : Int → Bool) : ∀ l, sumI (fun x => if p x then f x else 0) l = sumI f (l.filter p)
  | [] => rfl
  | x :: l => by
    cases h : p x with
    | true => rw [List.filter_cons_of_pos h]; simp [sumI, h, sumI_filter f p l]
    | false => rw [List.filter_cons_of_neg (by simp [h])]; simp [sumI, h, sumI_filter f p l]
theorem sumI_zero : ∀ l, sumI (fun _ => 0) l = 0
  | [] => rfl
  | _ :: l => by simp only [sumI, sumI_zero l]
theorem erase_filter : ∀ {l : List Int} {k : Nat} {x : Int}, l.Nodup → l[k]? = some x → l.eraseIdx k = l.filter (fun y => y != x)
  | [], _, _, _, h => by cases h
  | y :: l, 0, x, hn, h => by
    obtain rfl : y = x := by simpa using h
    rw [List.filter_cons_of_neg (by simp)]
    have := (List.nodup_cons.1 hn).1
    rw [List.eraseIdx_cons_zero, List.filter_eq_self.2]
    intro z hz
    simp only [bne_iff_ne, ne_eq]
    intro e; subst e; exact this hz
  | y :: l, k + 1, x, hn, h => by
    have hx : l[k]? = some x := by simpa using h
    have hm := List.mem_of_getElem? hx
    obtain ⟨h1, h2⟩ := List.nodup_cons.1 hn
    have hne : y ≠ x := fun e => h1 (e ▸ hm)
    rw [List.filter_cons_of_pos (by simp [hne]), List.eraseIdx_cons_succ, erase_filter h2 hx]
/-- How many draws there are, by who plays the first team. -/
theorem cnt_sum {m : List Pr} {t : Int} {rest : List Int} (hn : rest.Nodup) : cnt m (t :: rest) = sumI (fun x => if pMet m t x then 0 else cnt m (rest.filter (fun y => y != x))) rest := by
  rw [cnt_cons]
  have key : ∀ k, k ≤ rest.length → cntTo m t rest k = sumI (fun x => if pMet m t x then 0 else cnt m (rest.filter (fun y => y != x))) (rest.take k) := by
    intro k
    induction k with
    | zero => intro _; rfl
    | succ k ih =>
      intro hk
      obtain ⟨x, hx⟩ := getI_some (l := rest) (k := k) (by omega)
      obtain ⟨hk', hx'⟩ := List.getElem?_eq_some_iff.1 hx
      rw [List.take_succ_eq_append_getElem hk', sumI_append, hx', ← ih (by omega)]
      cases hm : pMet m t x with
      | true => rw [cntTo_yes hx hm]; simp [sumI, hm]
      | false => rw [cntTo_no hx hm, erase_filter hn hx]; simp [sumI, hm]
  rw [key rest.length (Nat.le_refl _), List.take_length]
theorem pMet_snoc (m : List Pr) (a b x y : Int) : pMet (m ++ [(a, b)]) x y = (pMet m x y || metP x y (a, b)) := by
  unfold pMet
  rw [List.any_append]
  simp
theorem metP_ne {a b x y : Int} (h : x ≠ a ∧ x ≠ b ∨ y ≠ a ∧ y ≠ b) : metP x y (a, b) = false := by
  unfold metP
  rcases h with ⟨h1, h2⟩ | ⟨h1, h2⟩ <;> simp [Ne.symm h1, Ne.symm h2]
/-- Who is not there has met nobody. -/
theorem cnt_gone {m : List Pr} {a b : Int} : ∀ n l, List.length l = n → l.Nodup → (a ∉ l ∨ b ∉ l) → cnt (m ++ [(a, b)]) l = cnt m l := by
  intro n
  induction n using Nat.strongRecOn with
  | _ n ih =>
    intro l hl hn hab
    cases l with
    | nil => rfl
    | cons t rest =>
      obtain ⟨h1, h2⟩ := List.nodup_cons.1 hn
      rw [cnt_sum h2, cnt_sum h2]
      refine sumI_congr fun x hx => ?_
      have hxt : x ≠ t := fun e => h1 (e ▸ hx)
      have e : metP t x (a, b) = false := by
        unfold metP
        rcases hab with h | h <;> simp only [List.mem_cons, not_or] at h <;> obtain ⟨h3, h4⟩ := h
        · have : x ≠ a := fun e => h4 (e ▸ hx)
          simp [Ne.symm this, h3]
        · have : x ≠ b := fun e => h4 (e ▸ hx)
          simp [Ne.symm this, h3]
      rw [pMet_snoc, e, Bool.or_false, ih _ ?_ _ rfl (h2.sublist (List.filter_sublist ..))]
      · rcases hab with h | h
        · exact .inl fun hh => h (List.mem_cons_of_mem _ (List.mem_filter.1 hh).1)
        · exact .inr fun hh => h (List.mem_cons_of_mem _ (List.mem_filter.1 hh).1)
      · have := List.length_filter_le (fun y => y != x) rest
        simp at hl
        omega
theorem sumI_one {b : Int} {W : Nat} : ∀ {l : List Int}, l.Nodup → b ∈ l → sumI (fun x => if x = b then W else 0) l = W
  | [], _, h => by cases h
  | x :: l, hn, h => by
    obtain ⟨h1, h2⟩ := List.nodup_cons.1 hn
    simp only [sumI]
    by_cases e : x = b
    · subst e
      rw [if_pos rfl, sumI_congr (g := fun _ => 0) (fun y hy => if_neg (fun e : y = x => h1 (e ▸ hy))), sumI_zero]
      omega
    · rw [if_neg e, sumI_one h2 ((List.mem_cons.1 h).resolve_left (Ne.symm e))]
      omega
theorem pMet_comm (m : List Pr) (a b : Int) : pMet m a b = pMet m b a := by
  unfold pMet
  congr 1
  funext p
  unfold metP
  exact Bool.or_comm ..
/-- The draws with a pair, and those in which it has met, are together all. -/
theorem cnt_split {m : List Pr} {a b : Int} (hab : a ≠ b) : ∀ n l, List.length l = n → l.Nodup → a ∈ l → b ∈ l →
    cnt m l = cnt (m ++ [(a, b)]) l + if pMet m a b then 0 else cnt m (l.filter fun y => y != a && y != b) := by
  intro n
  induction n using Nat.strongRecOn with
  | _ n ih =>
    intro l hl hn ha hb
    cases l with
    | nil => cases ha
    | cons t rest =>
      obtain ⟨h1, h2⟩ := List.nodup_cons.1 hn
      by_cases ta : t = a
      · subst ta
        have hb' : b ∈ rest := (List.mem_cons.1 hb).resolve_left (Ne.symm hab)
        have hf : (t :: rest).filter (fun y => y != t && y != b) = rest.filter (fun y => y != b) := by
          rw [List.filter_cons_of_neg (by simp)]
          refine List.filter_congr fun x hx => ?_
          have : x ≠ t := fun e => h1 (e ▸ hx)
          simp [this]
        rw [hf, cnt_sum h2, cnt_sum h2, ← sumI_one (W := if pMet m t b then 0 else cnt m (rest.filter fun y => y != b)) h2 hb', ← sumI_add]
        refine sumI_congr fun x hx => ?_
        have hxt : x ≠ t := fun e => h1 (e ▸ hx)
        rw [pMet_snoc]
        by_cases xb : x = b
        · subst xb
          rw [show metP t x (t, x) = true from by simp [metP], Bool.or_true, if_pos rfl, if_pos rfl, Nat.zero_add]
        · rw [if_neg xb, metP_ne (.inr ⟨hxt, xb⟩), Bool.or_false, cnt_gone _ _ rfl (h2.sublist (List.filter_sublist ..)) (.inl fun hh => h1 (List.mem_filter.1 hh).1), Nat.add_zero]
      · by_cases tb : t = b
        · subst tb
          have ha' : a ∈ rest := (List.mem_cons.1 ha).resolve_left hab
          have hf : (t :: rest).filter (fun y => y != a && y != t) = rest.filter (fun y => y != a) := by
            rw [List.filter_cons_of_neg (by simp)]
            refine List.filter_congr fun x hx => ?_
            have : x ≠ t := fun e => h1 (e ▸ hx)
            simp [this]
          rw [hf, pMet_comm m a t, cnt_sum h2, cnt_sum h2, ← sumI_one (W := if pMet m t a then 0 else cnt m (rest.filter fun y => y != a)) h2 ha', ← sumI_add]
          refine sumI_congr fun x hx => ?_
          have hxt : x ≠ t := fun e => h1 (e ▸ hx)
          rw [pMet_snoc]
          by_cases xa : x = a
          · subst xa
            rw [show metP t x (x, t) = true from by simp [metP], Bool.or_true, if_pos rfl, if_pos rfl, Nat.zero_add]
          · rw [if_neg xa, metP_ne (.inr ⟨xa, hxt⟩), Bool.or_false, cnt_gone _ _ rfl (h2.sublist (List.filter_sublist ..)) (.inr fun hh => h1 (List.mem_filter.1 hh).1), Nat.add_zero]
        · have ha' : a ∈ rest := (List.mem_cons.1 ha).resolve_left (Ne.symm ta)
          have hb' : b ∈ rest := (List.mem_cons.1 hb).resolve_left (Ne.symm tb)
          have hf : (t :: rest).filter (fun y => y != a && y != b) = t :: rest.filter (fun y => y != a && y != b) := by
            rw [List.filter_cons_of_pos (by simp [ta, tb])]
          have h3 : (rest.filter (fun y => y != a && y != b)).Nodup := h2.sublist (List.filter_sublist ..)
          have hW : (if pMet m a b then 0 else cnt m (t :: rest.filter (fun y => y != a && y != b))) =
              sumI (fun x => if x != a && x != b then (if pMet m a b then 0 else if pMet m t x then 0 else cnt m ((rest.filter (fun y => y != a && y != b)).filter (fun y => y != x))) else 0) rest := by
            rw [sumI_filter (fun x => if pMet m a b then 0 else if pMet m t x then 0 else cnt m ((rest.filter (fun y => y != a && y != b)).filter (fun y => y != x))) (fun x => x != a && x != b)]
            cases pMet m a b with
            | true => rw [if_pos rfl, sumI_congr (g := fun _ => 0) (fun y _ => if_pos rfl), sumI_zero]
            | false =>
              simp only [Bool.false_eq_true, if_false]
              exact cnt_sum h3
          rw [hf, hW, cnt_sum h2, cnt_sum h2, ← sumI_add]
          refine sumI_congr fun x hx => ?_
          rw [pMet_snoc, metP_ne (.inl ⟨ta, tb⟩), Bool.or_false]
          have h4 : (rest.filter (fun y => y != x)).Nodup := h2.sublist (List.filter_sublist ..)
          by_cases xa : x = a
          · subst xa
            rw [cnt_gone _ _ rfl h4 (.inl fun hh => by simpa using (List.mem_filter.1 hh).2)]
            simp
          · by_cases xb : x = b
            · subst xb
              rw [cnt_gone _ _ rfl h4 (.inr fun hh => by simpa using (List.mem_filter.1 hh).2)]
              simp
            · have hp : (x != a && x != b) = true := by simp [xa, xb]
              rw [if_pos hp]
              cases pMet m t x with
              | true => rw [if_pos rfl, if_pos rfl, if_pos rfl]; split <;> rfl
              | false =>
                simp only [Bool.false_eq_true, if_false]
                rw [ih _ ?_ _ rfl h4 (List.mem_filter.2 ⟨ha', by simp [Ne.symm xa]⟩) (List.mem_filter.2 ⟨hb', by simp [Ne.symm xb]⟩), List.filter_filter, List.filter_filter]
                · congr 3
                  refine List.filter_congr fun y _ => ?_
                  exact Bool.and_comm ..
                · have := List.length_filter_le (fun y => y != x) rest
                  simp at hl
                  omega
/-- Numbers of teams that are not the same: who has met. -/
def NumOk (m : List Pr) : Prop := ∀ p ∈ m, (1 ≤ p.1 ∧ p.1 ≤ 64) ∧ (1 ≤ p.2 ∧ p.2 ≤ 64) ∧ p.1 ≠ p.2
theorem numOk_of {t : List Int} {m : List Pr} (ht : TeamsOk t) (hm : MetOk t m) : NumOk m := fun p hp => ⟨ht.2 _ (hm p hp).1, ht.2 _ (hm p hp).2.1, (hm p hp).2.2⟩
theorem NumOk.snoc {m : List Pr} {a b : Int} (h : NumOk m) (ha : 1 ≤ a ∧ a ≤ 64) (hb : 1 ≤ b ∧ b ≤ 64) (hab : a ≠ b) : NumOk (m ++ [(a, b)]) := by
  intro p hp
  rcases List.mem_append.1 hp with hp | hp
  · exact h p hp
  · rw [List.mem_singleton] at hp; subst hp; exact ⟨ha, hb, hab⟩
theorem teams_sub {t r : List Int} (h : TeamsOk t) (hs : r.Sublist t) : TeamsOk r := ⟨h.1.sublist hs, fun x hx => h.2 x (hs.subset hx)⟩
theorem right_num {t : List Int} {m : List Pr} (ht : TeamsOk t) (hm : NumOk m) : pRight t m = true := by
  unfold pRight
  rw [Bool.and_eq_true_iff]
  constructor
  · refine decide_eq_true (fun j hj => ?_)
    rw [List.getElem?_eq_getElem hj, Option.getD_some]
    exact ⟨decide_eq_true (ht.2 _ (List.getElem_mem hj)), nodup_take ht.1 (List.getElem?_eq_getElem hj)⟩
  · rw [Bool.not_eq_true', List.any_eq_false]
    intro p hp
    obtain ⟨h1, h2, h3⟩ := hm p hp
    unfold pairBad numB
    rw [decide_eq_true h1, decide_eq_true h2]
    simpa using h3
theorem wrong_num {t : List Int} {m : List Pr} (ht : TeamsOk t) (hm : NumOk m) (h16 : t.length ≤ 16) : pWrong t m = 0 := by
  unfold pWrong
  rw [right_num ht hm, if_neg Bool.noConfusion, if_neg (by omega)]
theorem odd_num {t : List Int} {m : List Pr} (ht : TeamsOk t) (hm : NumOk m) (h16 : t.length ≤ 16) (he : t.length % 2 = 0) : pOdd t m = 0 ∧ pCount t m = cnt m t := pOdd_ok (wrong_num ht hm h16) (by omega)
theorem len_less {t : List Int} {a b : Int} (hn : t.Nodup) (ha : a ∈ t) (hb : b ∈ t) (hab : a ≠ b) : (t.filter fun y => y != a && y != b).length + 2 = t.length := by
  have key : ∀ {l : List Int} {x : Int}, l.Nodup → x ∈ l → (l.filter (fun y => y != x)).length + 1 = l.length := by
    intro l x hl hx
    obtain ⟨k, hk, e⟩ := List.mem_iff_getElem.1 hx
    rw [← erase_filter hl (k := k) (by rw [List.getElem?_eq_getElem hk, e]), List.length_eraseIdx_of_lt hk]
    omega
  have h1 := key hn ha
  have h2 := key (hn.sublist (List.filter_sublist (p := fun y => y != a))) (List.mem_filter.2 ⟨hb, by simp [Ne.symm hab]⟩)
  rw [List.filter_filter] at h2
  rw [show (fun y => y != b && y != a) = (fun y : Int => y != a && y != b) from funext fun y => Bool.and_comm ..] at h2
  omega
/-- The law of PairingFewer. -/
theorem fewer {t : List Int} {m : List Pr} {a b : Int} (ht : TeamsOk t) (hm : NumOk m) (h16 : t.length ≤ 16) (he : t.length % 2 = 0) (ha : a ∈ t) (hb : b ∈ t) (hab : a ≠ b) :
    pOdd t m = 0 ∧ pOdd t (m ++ [(a, b)]) = 0 ∧ pOdd (t.filter fun y => y != a && y != b) m = 0 ∧
      pCount t m = pCount t (m ++ [(a, b)]) + (if pMet m a b then 0 else pCount (t.filter fun y => y != a && y != b) m) := by
  have hm2 := hm.snoc (ht.2 a ha) (ht.2 b hb) hab
  have hl := len_less ht.1 ha hb hab
  obtain ⟨h1, h2⟩ := odd_num ht hm h16 he
  obtain ⟨h3, h4⟩ := odd_num ht hm2 h16 he
  obtain ⟨h5, h6⟩ := odd_num (teams_sub ht (List.filter_sublist (p := fun y => y != a && y != b))) hm (by omega) (by omega)
  refine ⟨h1, h3, h5, ?_⟩
  rw [h2, h4, h6]
  exact cnt_split hab _ t rfl ht.1 ha hb
theorem fewer_each {t : List Int} {m : List Pr} {a b : Int} (ht : TeamsOk t) (hm : NumOk m) (h16 : t.length ≤ 16) (he : t.length % 2 = 0) (ha : a ∈ t) (hb : b ∈ t) (hab : a ≠ b) {k : Nat} (hk : k < pCount t (m ++ [(a, b)])) :
    pNthE t (m ++ [(a, b)]) k = 0 ∧ (pNum t m (pNthR t (m ++ [(a, b)]) k)).2 = 0 ∧ 2 * (pNthR t (m ++ [(a, b)]) k).length = t.length := by
  have hm2 := hm.snoc (ht.2 a ha) (ht.2 b hb) hab
  obtain ⟨h1, _⟩ := odd_num ht hm h16 he
  obtain ⟨h3, h4⟩ := odd_num ht hm2 h16 he
  rw [h4] at hk
  have hr : 0 ≤ (k : Int) ∧ (k : Int) < (cnt (m ++ [(a, b)]) t : Int) := by omega
  obtain ⟨d, hd⟩ := List.getElem?_eq_some_iff.2 ⟨(show k < (draws (m ++ [(a, b)]) t).length from hk), rfl⟩ |> fun h => (⟨_, h⟩ : ∃ d, (draws (m ++ [(a, b)]) t)[k]? = some d)
  have e : pNthR t (m ++ [(a, b)]) k = d := by
    unfold pNthR nthR
    rw [if_neg (fun h => h h3), if_pos hr, show ((k : Int)).toNat = k from by omega, hd]
    rfl
  obtain ⟨⟨q, hq⟩, hlen⟩ := numF_of (m := m) (m' := m ++ [(a, b)]) (fun x y h => by rw [pMet_snoc] at h; exact (Bool.or_eq_false_iff.1 h).1) _ t rfl ht.1 d (List.mem_of_getElem? hd)
  refine ⟨?_, ?_, ?_⟩
  · unfold pNthE nthE
    rw [if_neg (fun h => h h3), if_pos hr]
  · rw [e]
    unfold pNum
    rw [if_neg (fun h => h h1), if_neg (fun h => h hlen), hq]
  · rw [e]; exact hlen
theorem pCount_16 {t : List Int} {m : List Pr} (h : t.length ≤ 16) : pCount t m ≤ 2027025 := by
  unfold pCount
  split
  · exact cnt_16 h
  · omega
theorem filter_take_step {t : List Int} {p : Int → Bool} {j : Nat} {x : Int} (h : t[j]? = some x) : (t.take (j + 1)).filter p = (t.take j).filter p ++ (if p x then [x] else []) := by
  obtain ⟨h2, h3⟩ := List.getElem?_eq_some_iff.1 h
  rw [List.take_succ_eq_append_getElem h2, List.filter_append, h3]
  cases h : p x <;> simp [h]
theorem nodup_idx {t : List Int} (hn : t.Nodup) {i j : Nat} {x y : Int} (hi : t[i]? = some x) (hj : t[j]? = some y) (e : x = y) : i = j := by
  subst e
  obtain ⟨h1, e1⟩ := List.getElem?_eq_some_iff.1 hi
  obtain ⟨h2, e2⟩ := List.getElem?_eq_some_iff.1 hj
  exact (List.getElem_inj hn).1 (e1.trans e2.symm)
/-- Which teams are left: by their places, or by their numbers. -/
theorem sel_eq {t : List Int} (hn : t.Nodup) {i k j : Nat} {a b x : Int} (hi : t[i]? = some a) (hk : t[k]? = some b) (hj : t[j]? = some x) : (x != a && x != b) = (decide (j ≠ i) && decide (j ≠ k)) := by
  have e1 : (x != a) = decide (j ≠ i) := by
    by_cases h : j = i
    · subst h; rw [hi] at hj; injection hj with hj; simp [hj]
    · simp [h]; exact fun e => h (nodup_idx hn hj hi e)
  have e2 : (x != b) = decide (j ≠ k) := by
    by_cases h : j = k
    · subst h; rw [hk] at hj; injection hj with hj; simp [hj]
    · simp [h]; exact fun e => h (nodup_idx hn hj hk e)
  rw [e1, e2]
end Go.Proofs.Ytiedecekbdaohaa
