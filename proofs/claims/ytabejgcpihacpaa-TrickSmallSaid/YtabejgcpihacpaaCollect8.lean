/- slices.Collect and slices.AppendSeq at uint8, over any iterator that says what comes. -/
import Derived.Test.YtabejgcpihacpaaRange
namespace Go.Proofs.Ytabejgcpihacpaa
open Go.RowKit Go.Shelf
attribute [local go_sem] Oper.semAt_some

theorem info_u8 : (Try.prog.info? 5).map (fun i => (i.zero, i.size, i.bytes)) = some (some (.int .u8 0), 1, 1) := by kernel_rfl

/-- A row that the call owns, as a slice that reads. -/
theorem own_sl {w : World} {base : Nat} {e : TypeId} {v : Value} {n : Nat} {xs : List Value} (h : w.ownsRow base e 1 v n xs) : ∃ A c, v = .slice A n c ∧ n ≤ c ∧ SlAt w A xs ∧ n = xs.length := by
  obtain ⟨h1, h2⟩ := h
  rcases h2 with ⟨rfl, rfl⟩ | ⟨g, cap, cur, rfl, _, hh, hnc, _, hs, hx⟩
  · refine ⟨none, 0, rfl, Nat.le_refl _, fun hl => ?_, by omega⟩
    omega
  · refine ⟨_, cap, rfl, hnc, fun _ => ⟨g, 0, rfl, (Array.getElem?_eq_some_iff.1 hh).1, fun i v hv => ?_⟩, by omega⟩
    rw [Nat.zero_add, cell_of_row w g i cur e (0, 0) hh]
    rw [← hx, List.getElem?_take] at hv
    split at hv
    · simpa using hv
    · cases hv

set_option maxHeartbeats 1000000 in
theorem c_appendSeq8 {α : Type} (g : Nat) (lb : Array Value) (bp : Nat) (f : α → Nat) (S : List α → Prop) (N : Nat) (w : World) (hN : N ≤ 1000000) (hbp : bp < w.heap.size)
    (eg : ∀ args w, (callFunc g args).run Try.prog w = .ok (.enter g args) w) (hseq : ItSeq Try.prog g lb bp (fun x => Value.int .u8 (f x : Nat)) S N w) :
    Calls Try.prog 56 #[.slice none 0 0, .func (.func g) #[] lb] w fun e w' => ∃ v ys, e = .returned v ∧ S ys ∧ w'.ownsRow w.heap.size 5 1 v ys.length (ys.map fun y => Value.int .u8 (f y : Nat)) ∧ Below w.heap.size w w' := by
  have hfn : ∀ f, Fence.wide.fn f := fun _ => trivial
  obtain ⟨i0, hi, hz0, hz1, hz2⟩ := info_parts info_u8
  refine (callsIn_wide (n := 10)).1 ?_
  refine callsIn_of_wp_marks (n := 10) Try.func56 rfl trivial ?_ rfl
  simp only [Try.ntmps56, List.size_toArray, List.length_cons, List.length_nil, Nat.reduceAdd, Nat.reduceSub, Array.replicate_succ, Array.replicate_zero, List.push_toArray, List.append_toArray, List.nil_append, List.cons_append]
  gi_wp2
  refine wpIn_range_all (s := 5) rfl eg hseq ((Below.refl _ _).alloc (Nat.le_refl _) _) (Nat.lt_of_lt_of_le hbp (by simp))
    (fun pre W => (∃ v, Boxed W w.heap.size 23 v ∧ W.ownsRow w.heap.size 5 1 v pre.length (pre.map fun y => Value.int .u8 (f y : Nat)) ∧ pre.length ≤ N) ∧ Below w.heap.size w W)
    ?hI ?h0 ?assign ?body ?done
  case hI => exact OwnFrom.and (Own.from (holdsRow_own _ _ _ _ _ (fun pre : List α => pre.length) (fun pre : List α => pre.map fun y => Value.int .u8 (f y : Nat)) (fun (pre : List α) _ => pre.length ≤ N)) _) (ownFrom_below (Nat.le_refl _) (by simp))
  case h0 => exact ⟨⟨_, Boxed.new _ _ _, ⟨rfl, .inl ⟨rfl, rfl⟩⟩, by simp⟩, (Below.refl _ _).alloc (Nat.le_refl _) _⟩
  case assign =>
    intro l v W K hK
    simp only [List.setIfInBounds_toArray, List.set_cons_succ, List.set_cons_zero] at hK ⊢
    gi_wp2
    exact hK
  case body =>
    rintro ll pre x W ⟨⟨v, hv, hrow, _⟩, hB⟩ hlt
    simp only [List.setIfInBounds_toArray, List.set_cons_succ, List.set_cons_zero]
    have hvc := hv.cell
    have hsz := hB.size
    gi_wp2_with (gi_at_builtin; refine wpListIn_append_own _ rfl _ _ 23 rfl w.heap.size 5 i0 (.int .u8 0) 1 1 Try.underlying23 hi hz0 hz1 hz2 rfl (by decide) _ _ _ rfl (hrow.alloc _) ⟨W.heap.size, 0, none⟩ 1 1 [.int .u8 (f x : Nat)] rfl rfl (cell_one_new _ _ _) (by simp [Value.oneCell']) (by unfold maxLen; omega) (by omega) (by have := hB.size; simp; omega) ?_; intro v' w1 hown' hgrow _; obtain ⟨g', cap', rfl⟩ := ownsRow_succ hown'; obtain ⟨hv1, hv2, hr2, hk2, hb2⟩ := hv.appended (by decide) hrow hB.size (Nat.le_refl _) hown' hgrow; have hc1 := hv1.cell; have hf1 := hv1.frozen)
    exact ⟨hk2.from _, KeepB.below hb2 hbp, ⟨⟨_, hv2, by simpa using hr2, by simp; omega⟩, hB.trans hb2⟩⟩
  case done =>
    rintro D ys W hD hys ⟨⟨v, hv, hrow, _⟩, hB⟩ hK
    have hvc := hv.cell
    gi_wp2
    refine ⟨by simp, .inl ⟨_, _, rfl, run_takeDeferred hK, ?_⟩⟩
    exact ⟨_, results_tmp rfl _ _ _, v, ys, rfl, hys, ownsRow_putObj hrow _ hK rfl, hB.trans (belowK_b (w := w) (Nat.le_refl _) W D _ _ (by simp at hD; omega) hK rfl rfl)⟩

set_option maxHeartbeats 400000 in
theorem c_collect8 {α : Type} (g : Nat) (lb : Array Value) (bp : Nat) (f : α → Nat) (S : List α → Prop) (N : Nat) (w : World) (hN : N ≤ 1000000) (hbp : bp < w.heap.size)
    (eg : ∀ args w, (callFunc g args).run Try.prog w = .ok (.enter g args) w) (hseq : ItSeq Try.prog g lb bp (fun x => Value.int .u8 (f x : Nat)) S N w) :
    Calls Try.prog 45 #[.func (.func g) #[] lb] w fun e w' => ∃ v ys, e = .returned v ∧ S ys ∧ w'.ownsRow w.heap.size 5 1 v ys.length (ys.map fun y => Value.int .u8 (f y : Nat)) ∧ Below w.heap.size w w' := by
  have H := Lib.hid (c_appendSeq8 g lb bp f S N w hN hbp eg hseq)
  clear hseq
  go_enter Try.func45, Try.ntmps45
  go_wp2_with (go_at_call 56; refine H.out.mono ?_; rintro e w1 ⟨v, ys, rfl, h1, h2, h3⟩)
  go_ret
  exact ⟨v, ys, rfl, h1, h2, h3⟩
end Go.Proofs.Ytabejgcpihacpaa
