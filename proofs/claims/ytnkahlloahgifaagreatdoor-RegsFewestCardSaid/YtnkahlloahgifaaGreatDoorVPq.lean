/- Part. -/
import Derived.Test.YtnkahlloahgifaaGreatDoorVPl
namespace RG
theorem nodup_len:∀ {l m:List Nm},l.Nodup→(∀ x∈l,x∈m)→l.length≤m.length
 | [],m,_,_=>Nat.zero_le _
 | x :: l,m,hn,hs=>by
  have hx:=hs x List.mem_cons_self
  obtain⟨a,b,rfl⟩:=List.append_of_mem hx
  rw [List.nodup_cons] at hn
  have:=nodup_len (l:=l) (m:=a++b) hn.2 (fun y hy=>by
   have h1:=hs y (List.mem_cons_of_mem _ hy)
   rcases List.mem_append.1 h1 with h2 | h2
   ·exact List.mem_append_left _ h2
   ·rcases List.mem_cons.1 h2 with rfl | h3
    ·exact absurd hy hn.1
    ·exact List.mem_append_right _ h3)
  rw [List.length_append] at this
  rw [List.length_append,List.length_cons,List.length_cons]
  omega
end RG
namespace RG
end RG
