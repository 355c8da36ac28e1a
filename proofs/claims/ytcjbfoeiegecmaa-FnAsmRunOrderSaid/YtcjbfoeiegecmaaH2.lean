import Derived.Test.YtcjbfoeiegecmaaH1
import Derived.Test.YtcjbfoeiegecmaaN9
import Derived.Test.YtcjbfoeiegecmaaG4
/- Plain facts on runs of assemblies: prefixes, numbers of messages. -/
namespace Go.Cap
open Go Go.Proofs
set_option linter.unusedSimpArgs false
set_option linter.unusedVariables false

theorem ofStr_app (s : Int) (a b : List Msg) : ofStr s (a ++ b) = ofStr s a ++ ofStr s b := by unfold ofStr; rw [List.filter_append]
theorem Stl.streams {a a' : Asm} {ms ms' : List Msg} (h : Stl a ms a' ms') : (∀ m ∈ ms, m.stream < a.next.length) → ∀ m ∈ ms', m.stream < a.next.length := by
  induction h with
  | stop a ms _ => exact fun h => h
  | step a ms p a' ms' ok hd _ ih =>
    intro h
    have hdo := due_ok ok hd
    rw [takeOut_nlen] at ih
    refine ih fun m hm => ?_
    rcases List.mem_append.1 hm with hm | hm
    · exact h m hm
    · simp only [List.mem_singleton] at hm
      subst hm
      obtain ⟨k0, pt, hp0⟩ : ∃ k0 pt, p = k0 :: pt := by cases p with
        | nil => exact absurd rfl hdo.ne
        | cons a b => exact ⟨a, b, rfl⟩
      have hk0 : k0 < a.parts.length := hdo.lt k0 (by rw [hp0]; simp)
      have := ok.stream _ (List.getElem_mem hk0)
      unfold msgOf
      rw [hp0]
      simp only [List.headD_cons, dataAt_eq hk0]
      exact this.2
/-- The numbers of what a run has told. -/
theorem run_nums (n : Nat) : ∀ (l : List Data) (x : Asm × List Msg), x.1.next.length = n → (∀ y ∈ x.1.next, serialB y = true) → (∀ s : Int, 0 ≤ s → s < n → nextAt x.1 s = l3 0 (ofStr s x.2).length ∧ ∀ k (hk : k < (ofStr s x.2).length), ((ofStr s x.2)[k]).ssn = l3 0 k) →
    (∀ s : Int, 0 ≤ s → s < n → ∀ k (hk : k < (ofStr s (l.foldl asmStep x).2).length), ((ofStr s (l.foldl asmStep x).2)[k]).ssn = l3 0 k)
  | [], x, hn, hs, hx => fun s h0 h1 => (hx s h0 h1).2
  | d :: l, x, hn, hs, hx => by
    rw [List.foldl_cons]
    by_cases h0 : (asmAdd x.1 d).2.2 = 0
    · have es : asmStep x d = ((asmAdd x.1 d).1, x.2 ++ (asmAdd x.1 d).2.1) := by unfold asmStep; rw [if_pos h0]
      rw [es]
      cases add_case x.1 d with
      | bad e _ => rw [e] at h0; cases h0
      | twice e _ _ _ _ => rw [e] at h0; cases h0
      | full e _ _ _ _ _ => rw [e] at h0; cases h0
      | done a' ms e hv hd hst ha hl ok st =>
        have hval := add_valid (a := x.1) (d := d) (by rw [e]; simp)
        rw [e] at hval
        obtain ⟨v1, v2⟩ := hval
        simp only at v1 v2
        obtain ⟨t, ht, hnum⟩ := st.nums ok.next
        simp only [List.nil_append] at ht
        subst ht
        rw [e]
        refine run_nums n l _ (by first | omega | (simp only; omega)) (asm_val.1 v1).1.next ?_
        intro s h0 h1
        obtain ⟨q1, q2⟩ := hnum s h0 (by first | omega | (simp only; omega))
        obtain ⟨p1, p2⟩ := hx s h0 h1
        have en : nextAt ⟨x.1.next, x.1.parts ++ [d]⟩ s = nextAt x.1 s := rfl
        rw [en] at q1 q2
        simp only [ofStr_app]
        refine ⟨by rw [q1, p1, l3_l3, List.length_append, Int.natCast_add], fun k hk => ?_⟩
        rcases Nat.lt_or_ge k (ofStr s x.2).length with hk2 | hk2
        · rw [List.getElem_append_left hk2]; exact p2 k hk2
        · rw [List.getElem_append_right hk2, q2 _ (by rw [List.length_append] at hk; omega), p1, l3_l3]
          congr 1; omega
    · have es : asmStep x d = x := by unfold asmStep; rw [if_neg h0]
      rw [es]
      exact run_nums n l x hn hs hx
theorem asmRun_nums {n : Int} {l : List Data} (hl : l.length ≤ 4000) (s : Nat) (hs : s < 4) : ∀ k (hk : k < (ofStr s (asmRun n l)).length), ((ofStr s (asmRun n l))[k]).ssn = k := by
  intro k hk
  unfold asmRun at hk ⊢
  by_cases hn : 1 ≤ n ∧ n ≤ 4
  · simp only [hn, and_self, if_true] at hk ⊢
    have hlen : (ofStr s (l.foldl asmStep (asmNew n.toNat, [])).2).length ≤ 13 * l.length := Nat.le_trans (ofStr_len _ _) (runSt_len n.toNat (by omega) l).2.2.1
    rcases (Int.lt_or_le (s : Int) n) with h1 | h1
    · have := run_nums n.toNat l (asmNew n.toNat, []) (by simp [asmNew]) (fun y hy => by simp only [asmNew] at hy; rw [(List.mem_replicate.1 hy).2]; decide) (fun s h0 h1 => ⟨by simp only [asmNew, ofStr, List.filter_nil, List.length_nil, nextAt, List.getD_eq_getElem?_getD]; rw [List.getElem?_replicate]; split <;> rfl, fun k hk => by simp [ofStr] at hk⟩) s (by omega) (by omega) k hk
      rw [this]
      unfold l3; omega
    · exfalso
      have key : ∀ (l : List Data) (x : Asm × List Msg), x.1.next.length = n.toNat → (∀ m ∈ x.2, m.stream < n) → ∀ m ∈ (l.foldl asmStep x).2, m.stream < n := by
        intro l
        induction l with
        | nil => intro x _ h; exact h
        | cons d l ih =>
          intro x hxn h
          rw [List.foldl_cons]
          by_cases h0 : (asmAdd x.1 d).2.2 = 0
          · have es : asmStep x d = ((asmAdd x.1 d).1, x.2 ++ (asmAdd x.1 d).2.1) := by unfold asmStep; rw [if_pos h0]
            rw [es]
            cases add_case x.1 d with
            | bad e _ => rw [e] at h0; cases h0
            | twice e _ _ _ _ => rw [e] at h0; cases h0
            | full e _ _ _ _ _ => rw [e] at h0; cases h0
            | done a' ms e hv hd hst ha hl ok st =>
              have hval := add_valid (a := x.1) (d := d) (by rw [e]; simp)
              rw [e] at hval
              obtain ⟨v1, v2⟩ := hval
              simp only at v1 v2
              rw [e]
              refine ih _ (by first | omega | (simp only; omega)) ?_
              intro m hm
              rcases List.mem_append.1 hm with hm | hm
              · exact h m hm
              · have := st.streams (fun x hx => by cases hx) m hm
                first | omega | (simp only at this; omega)
          · have es : asmStep x d = x := by unfold asmStep; rw [if_neg h0]
            rw [es]
            exact ih x hxn h
      have hm := List.getElem_mem hk
      unfold ofStr at hm
      rw [List.mem_filter] at hm
      have := key l (asmNew n.toNat, []) (by simp [asmNew]) (fun m hm => by simp at hm) _ hm.1
      simp only [Bool.and_eq_true, beq_iff_eq] at hm
      omega
  · rw [if_neg hn] at hk
    simp [ofStr] at hk
end Go.Cap
