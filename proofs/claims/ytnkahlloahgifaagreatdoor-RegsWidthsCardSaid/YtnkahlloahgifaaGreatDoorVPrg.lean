/- Part. -/
import Derived.Test.YtnkahlloahgifaaGreatDoorVPta
set_option maxHeartbeats 16000000
set_option maxRecDepth 100000
set_option linter.unusedSimpArgs false
set_option linter.unusedVariables false
namespace RG
theorem posn_place {F:List Nd}(hn:(vars F).Nodup) (q:Nm→Bool):(named F q).map (place F)=posn F q (vars F).length:=by
 rw [← posn_names,List.map_map]
 conv=>rhs;rw [← List.map_id (posn F q (vars F).length)]
 refine List.map_congr_left fun p hp=>?_
 have:=(List.mem_filter.1 hp).1
 exact place_getD hn (List.mem_range.1 this)
end RG
