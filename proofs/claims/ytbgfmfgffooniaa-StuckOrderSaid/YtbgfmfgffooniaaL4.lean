/- StuckOrder: the law's own function answers true. Conditions: none. -/
import Derived.Test.YtbgfmfgffooniaaS6
import Derived.Test.YtbgfmfgffooniaaC2
namespace Go.Sx
open Go.Proofs
theorem law4 (N k : Int) (A B : Option Addr) (n m cap cap' : Nat) (arcs : List Arc) (l : List Blk) (h : Hp) (ht : Tab h 5 A n (arcs.map Arc.cells)) (hu : Tab h 3 B m (l.map Blk.cells)) (hn : n * 40 ≤ 140737488355328) (hm : m * 24 ≤ 140737488355328) (hcap : m ≤ cap') :
    Fn Try.prog 4 #[netV N A n cap, .slice B m cap', iv k] h fun r h' => r = .bool true ∧ h.le h' := by
  have hl : l.length = m := by simpa using hu.len
  refine Fn.intro (args := [netV N A n cap, .slice B m cap', iv k]) mix14 Try.func4 rfl (by decide) Try.ntmps4 rfl (low4 rfl) rfl ?_
  conv => whnf
  refine .abs 36 3 none 0 0 [] ⟨rfl, .inl ⟨rfl, rfl, rfl⟩⟩ (.done (.mk _ (confirm11 N A B n m cap cap' arcs l h ht hu (by omega) (by omega)) ?_))
  rintro _ h1 ⟨rfl, hle1⟩
  have hu1 := hu.mono hle1
  conv => whnf
  refine .ok (by omega) (by omega) ?_
  conv => whnf
  refine .mk (Nat × Option Addr × Nat × Int) [1, 2, 3, 7, 8, 9] (fun (c, A', c', z) => [.v (.slice B m cap'), .v (iv k), .p 0 0, .v (iv (conf N arcs l)), .v (.slice A' c c'), .v (iv z)])
    (fun (c, A', c', _) => [.own [.v (iv N), .v (.slice A n cap)] 24, .row 36 3 A' c c' (((l.reverse.take c).map Blk.cells).flatten)])
    (fun (c, _, _, z) h' => h' = h1 ∧ c ≤ m ∧ z = (m : Int) - 1 - c) (fun (c, _, _, _) => m - c) (0, none, 0, (m : Int) - 1) (fun (_, _, _, _) => rfl) ⟨rfl, Nat.zero_le _, by simp⟩ rfl rfl ?_
  rintro ⟨c, A', c', z⟩ e h' ⟨rfl, hc, hz⟩
  conv => whnf
  refine br_dec (fun h2 => ?_) (fun h2 => ?_)
  · have hc' : c < m := by omega
    have hzl : z.toNat < l.length := by omega
    obtain ⟨g, hg⟩ := hu.ad (by omega)
    have hrev : l.reverse.take (c + 1) = l.reverse.take c ++ [l[z.toNat]] := by
      rw [take_succ' (by simp; omega)]
      congr 2
      rw [List.getElem_reverse]
      congr 1; omega
    conv => whnf
    refine .mk g hg (by omega) (by omega) ?_
    conv => whnf
    refine .hp l[z.toNat].cells rfl (hu1.row hg (map_get hzl)) ?_
    conv => whnf
    refine .done (.old 1 _ l[z.toNat].cells rfl rfl (fun u hu => blks_one [l[z.toNat]] u (by simpa using hu)) (by simp [maxLen]; omega) (by omega) fun A2 c2 _ => ?_)
    conv => whnf
    refine .ok (by omega) (by omega) ?_
    conv => whnf
    refine ⟨(c + 1, A2, c2, z - 1), rfl, ?_, ⟨rfl, hc', by omega⟩, by show m - (c + 1) < m - c; omega⟩
    simp only [hrev, List.map_append, List.flatten_append]
    rw [show (List.map Blk.cells [l[z.toNat]]).flatten = l[z.toNat].cells from by simp]
    rfl
  have hc2 : c = m := by omega
  subst hc2
  have hall : l.reverse.take c = l.reverse := List.take_of_length_le (by simp; omega)
  have hperm : l.reverse.Perm l := List.reverse_perm l
  conv => whnf
  refine br_dec (fun h3 => ?_) (fun h3 => ?_)
  · conv => whnf
    refine .pub 1 36 3 A' c c' _ rfl fun h2 hle2 hr _ => .done (.mk _ (confirm11 N A A' n c cap c' arcs l.reverse h2 ((ht.mono hle1).mono hle2) (by rw [hall] at hr; exact hr.tab (blks_wid _) (by decide)) (by omega) (by omega)) ?_)
    rintro _ h4 ⟨rfl, hle4⟩
    rw [conf_perm hperm]
    conv => whnf
    refine br_dec (fun _ => ?_) (fun q => (q rfl).elim)
    conv => whnf
    refine .done (.mk _ (awake15 _) ?_)
    rintro _ h5 ⟨rfl, hle5⟩
    conv => whnf
    exact .done ⟨rfl, ((hle1.trans' hle2).trans' hle4).trans' hle5⟩
  conv => whnf
  refine br_dec (fun h4 => ?_) (fun h4 => ?_)
  · conv => whnf
    refine .pub 1 36 3 A' c c' _ rfl fun h2 hle2 hr _ => .done (.mk _ (confirm11 N A A' n c cap c' arcs l.reverse h2 ((ht.mono hle1).mono hle2) (by rw [hall] at hr; exact hr.tab (blks_wid _) (by decide)) (by omega) (by omega)) ?_)
    rintro _ h4 ⟨rfl, hle4⟩
    rw [conf_perm hperm]
    conv => whnf
    refine br_dec (fun _ => ?_) (fun q => (q rfl).elim)
    conv => whnf
    refine .done (.mk _ (awake15 _) ?_)
    rintro _ h5 ⟨rfl, hle5⟩
    conv => whnf
    exact .done ⟨rfl, ((hle1.trans' hle2).trans' hle4).trans' hle5⟩
  obtain ⟨j, rfl⟩ : ∃ j : Nat, k = j := ⟨k.toNat, by omega⟩
  have hj : j ≤ c := by omega
  conv => whnf
  refine .mk j c rfl rfl hj hcap fun B1 hB1 hB1' => ?_
  have hd := hu1.drop (k := j) (B := B1) (fun hlt => hB1 (by omega)) hj
  rw [← List.map_drop] at hd
  conv => whnf
  refine .done (.fresh _ rfl rfl rfl (hd.src _) (blks_one _) (by simp [maxLen]; omega) (by omega) fun A2 c2 _ => ?_)
  conv => whnf
  refine .mk 0 j rfl rfl (Nat.zero_le _) (by omega) fun B2 hB2 hB2' => ?_
  have hB2e : B2 = B := by
    by_cases h0 : 0 < cap'
    · rw [hB2 h0]
      cases B with
      | none => rfl
      | some b => simp [add_zero]
    · exact hB2' (by omega)
  subst hB2e
  have htk := hu1.take hj
  rw [← List.map_take] at htk
  conv => whnf
  refine .done (.old 2 _ _ rfl (htk.src _) (blks_one _) (by simp [maxLen]; omega) (by omega) fun A3 c3 _ => ?_)
  have hperm2 : (l.drop j ++ l.take j).Perm l := by
    have := List.perm_append_comm (l₁ := l.drop j) (l₂ := l.take j)
    rwa [List.take_append_drop] at this
  have hflat : (List.map Blk.cells (List.drop j l)).flatten ++ (List.map Blk.cells (List.take j l)).flatten = ((l.drop j ++ l.take j).map Blk.cells).flatten := by
    rw [List.map_append, List.flatten_append]
  rw [hflat]
  conv => whnf
  refine .pub 1 36 3 A' c c' _ rfl fun h2 hle2 hr _ => .done (.mk _ (confirm11 N A A' n c cap c' arcs l.reverse h2 ((ht.mono hle1).mono hle2) (by rw [hall] at hr; exact hr.tab (blks_wid _) (by decide)) (by omega) (by omega)) ?_)
  rintro _ h4 ⟨rfl, hle4⟩
  rw [conf_perm hperm]
  conv => whnf
  refine br_dec (fun _ => ?_) (fun q => (q rfl).elim)
  conv => whnf
  refine .pub 2 36 3 A3 _ c3 _ rfl fun h5 hle5 hr _ => .done (.mk _ (confirm11 N A A3 n _ cap c3 arcs (l.drop j ++ l.take j) h5 ((((ht.mono hle1).mono hle2).mono hle4).mono hle5) (hr.tab (blks_wid _) (by decide)) (by omega) (by omega)) ?_)
  rintro _ h6 ⟨rfl, hle6⟩
  rw [conf_perm hperm2]
  conv => whnf
  refine br_dec (fun _ => ?_) (fun q => (q rfl).elim)
  conv => whnf
  refine .done (.mk _ (awake15 _) ?_)
  rintro _ h7 ⟨rfl, hle7⟩
  conv => whnf
  exact .done ⟨rfl, ((((hle1.trans' hle2).trans' hle4).trans' hle5).trans' hle6).trans' hle7⟩
end Go.Sx
